/-
  PARTS: append OF A WHOLE SLICE whose elements lie in blocks of their own, to one of the call's own. No program in sight.; MORE ON ROWS THAT append HAS BUILT, whose elements lie elsewhere.; ROWS OF A SLICE OF ITS OWN, element by element: what copy, clear, append do to one. No function of the program in sight.; THE WALKS of the document's DropOf, PutOf.; THE WALK of slices.Delete of one file, in place.; THE WALK of slices.Insert of one file: at the end, in place, or in a new row.; THE WALKS of tree.Find (a binary search).
-/
import Derived.Test.YtibeddcebefbjaaDoorPackAj6
import Derived.Test.YtibeddcebefbjaaDoorPackAj4
import Derived.Lib.AppendZerosOnto
import Derived.Test.YtibeddcebefbjaaDoorPackAj5
import Derived.Deep.RegionHeld3
import Derived.Lib.Overlaps
namespace Go.Proofs.YtibeddcebefbjaaDoor
open Go.RowKit

theorem run_many2 {P : Program} {α : Type} [Dat α] {t ty e : TypeId} (hP : ElemOk P t e (Dat.n α)) {w0 : World} {O : Nat → Prop} {v x : Value} {l m : List α}
    (hown : Own e w0 O v l) (hx : Rdv w0 (fun k => O k ∨ v.ownBlock = some k) x m) (hO : ∀ k, O k → k < w0.heap.size) (hlen : l.length + m.length ≤ 1000000000) :
    ∃ v' w', (Builtin.append_ #[t, t] ty #[v, x]).run P w0 = .ok v' w' ∧ Own e w' O v' (l ++ m) ∧ Chg (OwnB v) w0 w' ∧ (∀ k, v'.ownBlock = some k → v.ownBlock = some k ∨ w0.heap.size ≤ k) := by
  obtain ⟨a, cap, rfl, c1, c2, hel⟩ := rdv_slice hx
  rcases Nat.eq_zero_or_pos m.length with h0 | hpos
  · have : m = [] := List.eq_nil_of_length_eq_zero h0
    subst this
    refine ⟨v, w0, ?_, by rw [List.append_nil]; exact hown, Chg.refl _ _, fun k hk => .inl hk⟩
    obtain ⟨xs, hrow, _⟩ := hown
    exact run_append_empty hP hrow a cap
  · obtain ⟨b, off, rfl⟩ : ∃ b off, a = some ⟨b, off, none⟩ := by
      obtain ⟨b, off, es, ha, _⟩ := hel 0 m[0] (by simp [hpos])
      exact ⟨b, off, ha⟩
    obtain ⟨i, z, hi, hz, hsz, hzs, hby⟩ := hP.info
    obtain ⟨xs, hrow, hb, hels⟩ := id hown
    obtain ⟨news, n1, n2, n3, n4⟩ := elems_cells hel m.length (Nat.le_refl _)
    have hpos' := Dat.pos (α := α)
    have hcells : ∀ j u, news[j]? = some u → w0.cell? ((⟨b, off, none⟩ : Addr).add j) = some u := by
      intro j u hj
      have e1 : (⟨b, off, none⟩ : Addr).add j = ⟨b, off + j, none⟩ := by unfold Addr.add; split <;> simp_all
      rw [e1]
      exact n2 j u hj
    have hbound : (l.length + m.length) * i.bytes ≤ 140737488355328 := by
      have := Nat.mul_le_mul hlen hby
      omega
    obtain ⟨v', w', hrun, hown', hgrow, hnil⟩ := run_append_own (P := P) w0 0 t ty e i z (Dat.n α) i.bytes hP.ht hi hz hsz rfl hzs hpos' v l.length xs hrow
      ⟨b, off, none⟩ m.length cap news n1 hcells n3 (by unfold maxLen; omega) hbound (Nat.zero_le _)
    obtain ⟨kb, hkb, hkb'⟩ := append_block (P := P) w0 0 t ty e i z (Dat.n α) i.bytes hP.ht hi hz hsz rfl v l.length xs hrow
      ⟨b, off, none⟩ m.length cap news n1 hcells n3 (by unfold maxLen; omega) hbound (by omega) hrun
    have hc : Chg (OwnB v) w0 w' := Chg.of_grown hgrow
    have hsub : ∀ k, k < w0.heap.size → (O k ∨ v'.ownBlock = some k) → (O k ∨ v.ownBlock = some k) := by
      rintro k hk (h | h)
      · exact .inl h
      · rw [hkb] at h
        injection h with h
        subst h
        rcases hkb' with h | h
        · exact .inr h
        · omega
    refine ⟨v', w', hrun, ⟨xs ++ news, ?_, ?_, ?_⟩, hc, fun k hk => by rw [hkb] at hk; injection hk with hk; subst hk; exact hkb'.imp_right (fun h => Nat.le_of_eq h.symm)⟩
    · rw [List.length_append]; exact hown'
    · intro k hk ho
      rw [hkb] at hk
      injection hk with hk
      subst hk
      rcases hkb' with h | h
      · exact hb _ h ho
      · exact absurd (hO _ ho) (by omega)
    · intro j y hj
      have hxl : xs.length = l.length * Dat.n α := hrow.1
      rcases Nat.lt_or_ge j l.length with hjl | hjl
      · rw [List.getElem?_append_left hjl] at hj
        have hle : j * Dat.n α + Dat.n α ≤ xs.length := by rw [hxl, ← Nat.succ_mul]; exact Nat.mul_le_mul_right _ hjl
        rw [List.drop_append_of_le_length (by omega), List.take_append_of_le_length (by rw [List.length_drop]; omega)]
        exact Dat.keep (hels j y hj) hc (fun k _ hk => .inr hk) hsub
      · rw [List.getElem?_append_right hjl] at hj
        have hjm := (List.getElem?_eq_some_iff.1 hj).1
        have e1 : (xs ++ news).drop (j * Dat.n α) = news.drop ((j - l.length) * Dat.n α) := by
          have e2 : j * Dat.n α = xs.length + (j - l.length) * Dat.n α := by rw [hxl, ← Nat.add_mul]; congr 1; omega
          rw [e2, List.drop_append]
          simp
        rw [e1]
        exact Dat.keep (n4 _ y hjm hj) hc (fun k _ hk => .inr hk) hsub

theorem wpList_many2 {P : Program} {ops : Array Oper} {rest : List Oper} {o : Oper} {a : Act} {Q : Exit → Act → World → Prop} (hgd : o.guard = none) (s x : Operand) (t : TypeId)
    (ho : o.op = .call { callee := .builtin .append, args := #[s, x], argTypes := #[t, t] }) {α : Type} [Dat α] {e : TypeId} (hP : ElemOk P t e (Dat.n α)) {w0 : World} {O : Nat → Prop} {v u : Value} {l m : List α}
    (hs : a.eval s = v) (hx : a.eval x = u) (hown : Own e w0 O v l) (hu : Rdv w0 (fun k => O k ∨ v.ownBlock = some k) u m) (hO : ∀ k, O k → k < w0.heap.size) (hlen : l.length + m.length ≤ 1000000000)
    (h : ∀ v' w', Own e w' O v' (l ++ m) → Chg (OwnB v) w0 w' → (∀ k, v'.ownBlock = some k → v.ownBlock = some k ∨ w0.heap.size ≤ k) → wpList P ops Q rest (a.put o.dst v') w') :
    wpList P ops Q (o :: rest) a w0 := by
  refine wpList_plain hgd fun K hK => ?_
  obtain ⟨v', w', hrun, h1, h2, h3⟩ := run_many2 (ty := o.type) hP hown hu hO hlen
  unfold Oper.wp execOp
  simp only [ho, resolve, invoke, builtin, Sem.run_bind, Sem.run_pure, Result.andThen_ok, List.map_toArray, List.map_cons, List.map_nil, hs, hx, hrun]
  exact hK _ _ (h v' w' h1 h2 h3)

/-- v owns its row, which has come since w0; its elements may lie wherever -/
structure OwnN {α : Type} [Dat α] (e : TypeId) (w0 wr : World) (v : Value) (l : List α) : Prop where
  own : Own e wr Never v l
  new : ∀ k, v.ownBlock = some k → w0.heap.size ≤ k
  chg : Chg Never w0 wr
theorem ownN_nil {α : Type} [Dat α] (e : TypeId) {w0 wr : World} (h : Chg Never w0 wr) : OwnN e w0 wr (.slice none 0 0) ([] : List α) :=
  ⟨own_nil _ _ _, fun k hk => by simp [Value.ownBlock] at hk, h⟩
theorem OwnN.step {α : Type} [Dat α] {e : TypeId} {w0 wr w' : World} {v v' : Value} {l l' : List α} (h : OwnN e w0 wr v l) (hown : Own e w' Never v' l') (hc : Chg (OwnB v) wr w') (hk : ∀ k, v'.ownBlock = some k → v.ownBlock = some k ∨ wr.heap.size ≤ k) : OwnN e w0 w' v' l' :=
  ⟨hown, fun k hk' => (hk k hk').elim (h.new k) (fun hh => Nat.le_trans h.chg.size hh), h.chg.trans' hc (fun i hi hh => absurd (h.new i hh) (by omega))⟩
theorem OwnN.step1 {α : Type} [Dat α] {e : TypeId} {w0 wr w' : World} {v v' : Value} {l l' : List α} (h : OwnN e w0 wr v l) (hown : Own e w' Never v' l') (hc : Chg (OwnB v) wr w') (hk : ∃ k, v'.ownBlock = some k ∧ (v.ownBlock = some k ∨ wr.heap.size ≤ k)) : OwnN e w0 w' v' l' :=
  h.step hown hc (fun k hk' => by
    obtain ⟨j, h1, h2⟩ := hk
    rw [h1] at hk'
    injection hk' with hk'
    subst hk'
    exact h2)
theorem OwnN.never {α : Type} [Dat α] {e : TypeId} {w0 wr w' : World} {v : Value} {l : List α} (h : OwnN e w0 wr v l) (hc : Chg Never wr w') : OwnN e w0 w' v l := ⟨h.own.never hc, h.new, h.chg.trans hc⟩
/-- what was there at the beginning does not lie in the row -/
theorem OwnN.away {α β : Type} [Dat α] [Dat β] {e : TypeId} {w0 wr : World} {v u : Value} {l : List α} {x : β} (h : OwnN e w0 wr v l) (hu : Rdv w0 Never u x) : Rdv wr (fun k => Never k ∨ v.ownBlock = some k) u x :=
  (hu.sub (O' := fun k => Never k ∨ v.ownBlock = some k) (fun k hk hh => by
    rcases hh with hh | hh
    · exact hh
    · exact absurd (h.new k hh) (by omega))).never h.chg
end Go.Proofs.YtibeddcebefbjaaDoor
namespace Go.Proofs.YtibeddcebefbjaaDoor
open Go.RowKit

/-- what has come since does not lie in the row -/
theorem OwnN.fresh {α β : Type} [Dat α] [Dat β] {e : TypeId} {w0 wr w' : World} {v u : Value} {l : List α} {x : β} (h : OwnN e w0 wr v l) (hu : Rdv w' (Old wr.heap.size) u x) : Rdv w' (fun k => Never k ∨ v.ownBlock = some k) u x :=
  hu.sub (fun k _ hh => by
    rcases hh with hh | hh
    · exact hh.elim
    · exact own_block_lt h.own k hh)
end Go.Proofs.YtibeddcebefbjaaDoor
namespace Go.Proofs.YtibeddcebefbjaaDoor
open Go.RowKit

/-! ### elements and their cells -/
def RdL {α : Type} [Dat α] (w : World) (O : Nat → Prop) : List α → List (List Value) → Prop
  | [], [] => True
  | x :: l, c :: r => Dat.rd w O c x ∧ RdL w O l r
  | _, _ => False
theorem RdL.len {α : Type} [Dat α] {w : World} {O : Nat → Prop} : ∀ {l : List α} {r : List (List Value)}, RdL w O l r → r.length = l.length ∧ ∀ c ∈ r, c.length = Dat.n α
  | [], [], _ => ⟨rfl, by simp⟩
  | x :: l, c :: r, h => by
    obtain ⟨h1, h2⟩ := RdL.len h.2
    refine ⟨by rw [List.length_cons, List.length_cons, h1], fun y hy => ?_⟩
    rcases List.mem_cons.1 hy with rfl | hy
    · exact Dat.len h.1
    · exact h2 y hy
  | [], _ :: _, h => h.elim
  | _ :: _, [], h => h.elim
theorem RdL.one {α : Type} [Dat α] {w : World} {O : Nat → Prop} : ∀ {l : List α} {r : List (List Value)}, RdL w O l r → ∀ c ∈ r, ∀ u ∈ c, u.oneCell' = true
  | [], [], _ => by simp
  | x :: l, c :: r, h => by
    intro y hy
    rcases List.mem_cons.1 hy with rfl | hy
    · exact Dat.one h.1
    · exact RdL.one h.2 y hy
  | [], _ :: _, h => h.elim
  | _ :: _, [], h => h.elim
theorem RdL.take {α : Type} [Dat α] {w : World} {O : Nat → Prop} : ∀ {l : List α} {r : List (List Value)} (k : Nat), RdL w O l r → RdL w O (l.take k) (r.take k)
  | _, _, 0, _ => trivial
  | [], [], _ + 1, _ => trivial
  | _ :: _, _ :: _, k + 1, h => ⟨h.1, RdL.take k h.2⟩
  | [], _ :: _, _ + 1, h => h.elim
  | _ :: _, [], _ + 1, h => h.elim
theorem RdL.drop {α : Type} [Dat α] {w : World} {O : Nat → Prop} : ∀ {l : List α} {r : List (List Value)} (k : Nat), RdL w O l r → RdL w O (l.drop k) (r.drop k)
  | _, _, 0, h => h
  | [], [], _ + 1, _ => trivial
  | _ :: _, _ :: _, k + 1, h => RdL.drop k h.2
  | [], _ :: _, _ + 1, h => h.elim
  | _ :: _, [], _ + 1, h => h.elim
theorem RdL.app {α : Type} [Dat α] {w : World} {O : Nat → Prop} : ∀ {l m : List α} {r s : List (List Value)}, RdL w O l r → RdL w O m s → RdL w O (l ++ m) (r ++ s)
  | [], _, [], _, _, g => g
  | _ :: _, _, _ :: _, _, h, g => ⟨h.1, RdL.app h.2 g⟩
  | [], _, _ :: _, _, h, _ => h.elim
  | _ :: _, _, [], _, h, _ => h.elim
theorem RdL.keep {α : Type} [Dat α] {w w' : World} {O O' O'' : Nat → Prop} (hc : Chg O' w w') (h1 : ∀ k, k < w.heap.size → O' k → O k) (h2 : ∀ k, k < w.heap.size → O'' k → O k) : ∀ {l : List α} {r : List (List Value)}, RdL w O l r → RdL w' O'' l r
  | [], [], _ => trivial
  | _ :: _, _ :: _, h => ⟨Dat.keep h.1 hc h1 h2, RdL.keep hc h1 h2 h.2⟩
  | [], _ :: _, h => h.elim
  | _ :: _, [], h => h.elim
theorem RdL.get {α : Type} [Dat α] {w : World} {O : Nat → Prop} : ∀ {l : List α} {r : List (List Value)}, RdL w O l r → ∀ (i : Nat) (x : α), l[i]? = some x → Dat.rd w O ((r.flatten.drop (i * Dat.n α)).take (Dat.n α)) x
  | [], [], _, i, x, hx => by simp at hx
  | y :: l, c :: r, h, 0, x, hx => by
    simp only [List.getElem?_cons_zero, Option.some.injEq] at hx
    subst hx
    have e : ((c :: r).flatten.drop (0 * Dat.n α)).take (Dat.n α) = c := by
      rw [Nat.zero_mul, List.drop_zero, List.flatten_cons, ← Dat.len h.1, List.take_left]
    rw [e]; exact h.1
  | y :: l, c :: r, h, i + 1, x, hx => by
    have := RdL.get h.2 i x (by simpa using hx)
    have e : (c :: r).flatten.drop ((i + 1) * Dat.n α) = r.flatten.drop (i * Dat.n α) := by
      rw [List.flatten_cons, Nat.succ_mul, Nat.add_comm, ← List.drop_drop, ← Dat.len h.1, List.drop_left]
    rw [e]; exact this
  | [], _ :: _, h, _, _, _ => h.elim
  | _ :: _, [], h, _, _, _ => h.elim
theorem rdl_of {α : Type} [Dat α] {w : World} {O : Nat → Prop} : ∀ (l : List α) (xs : List Value), xs.length = l.length * Dat.n α → (∀ (i : Nat) (x : α), l[i]? = some x → Dat.rd w O ((xs.drop (i * Dat.n α)).take (Dat.n α)) x) → ∃ r, RdL w O l r ∧ r.flatten = xs
  | [], xs, h, _ => ⟨[], trivial, by
    have : xs = [] := List.eq_nil_of_length_eq_zero (by rw [h]; simp)
    rw [this]; rfl⟩
  | x :: l, xs, h, g => by
    obtain ⟨r, h1, h2⟩ := rdl_of l (xs.drop (Dat.n α)) (by rw [List.length_drop, h, List.length_cons, Nat.succ_mul]; omega) (fun i y hy => by
      have := g (i + 1) y (by simpa using hy)
      rw [List.drop_drop]
      rwa [show Dat.n α + i * Dat.n α = (i + 1) * Dat.n α by rw [Nat.succ_mul, Nat.add_comm]])
    have := g 0 x rfl
    rw [Nat.zero_mul, List.drop_zero] at this
    exact ⟨xs.take (Dat.n α) :: r, ⟨this, h1⟩, by rw [List.flatten_cons, h2, List.take_append_drop]⟩
theorem cells_len {q : Nat} : ∀ {r : List (List Value)}, (∀ c ∈ r, c.length = q) → r.flatten.length = r.length * q
  | [], _ => by simp
  | c :: r, h => by
    rw [List.flatten_cons, List.length_append, cells_len (r := r) (fun x hx => h x (List.mem_cons_of_mem _ hx)), h c (List.mem_cons_self ..), List.length_cons, Nat.succ_mul, Nat.add_comm]
theorem cells_take {q : Nat} : ∀ (r : List (List Value)) (k : Nat), (∀ c ∈ r, c.length = q) → r.flatten.take (k * q) = (r.take k).flatten
  | _, 0, _ => by simp
  | [], _ + 1, _ => by simp
  | c :: r, k + 1, h => by
    have e := h c (List.mem_cons_self ..)
    rw [List.take_succ_cons, List.flatten_cons, List.flatten_cons, ← cells_take r k (fun x hx => h x (List.mem_cons_of_mem _ hx)), Nat.succ_mul, Nat.add_comm, ← e, List.take_length_add_append]
theorem cells_drop {q : Nat} : ∀ (r : List (List Value)) (k : Nat), (∀ c ∈ r, c.length = q) → r.flatten.drop (k * q) = (r.drop k).flatten
  | _, 0, _ => by simp
  | [], _ + 1, _ => by simp
  | c :: r, k + 1, h => by
    have e := h c (List.mem_cons_self ..)
    rw [List.drop_succ_cons, List.flatten_cons, ← cells_drop r k (fun x hx => h x (List.mem_cons_of_mem _ hx)), Nat.succ_mul, Nat.add_comm, ← List.drop_drop, ← e, List.drop_left]

/-! ### a row's own block -/
theorem own_rows {α : Type} [Dat α] {e : TypeId} {w : World} {O : Nat → Prop} {v : Value} {l : List α} (h : Own e w O v l) (hl : 0 < l.length) :
    ∃ (g cap : Nat) (r : List (List Value)) (tail : List Value), v = .slice (some ⟨g, 0, none⟩) l.length cap ∧ w.heap[g]? = some (.cells (r.flatten ++ tail).toArray e (0, 0)) ∧ (r.flatten ++ tail).length = cap * Dat.n α ∧ l.length ≤ cap ∧ cap ≤ maxLen ∧ ¬ O g ∧ RdL w (fun k => O k ∨ k = g) l r := by
  obtain ⟨xs, hx, hO, hr⟩ := h
  rcases hx.2 with ⟨_, h0⟩ | ⟨g, cap, cur, rfl, _, hg, hle, hcm, hcs, htk⟩
  · omega
  · have hr' : ∀ (i : Nat) (x : α), l[i]? = some x → Dat.rd w (fun k => O k ∨ k = g) ((xs.drop (i * Dat.n α)).take (Dat.n α)) x := fun i x hx => Dat.keep (hr i x hx) (Chg.refl Never w) (fun _ _ h => h.elim) (fun k _ hk => hk.imp_right (fun e => by rw [e]; rfl))
    obtain ⟨r, h1, h2⟩ := rdl_of l xs hx.1 hr'
    have e : r.flatten ++ cur.toList.drop (l.length * Dat.n α) = cur.toList := by rw [h2, ← htk, List.take_append_drop]
    refine ⟨g, cap, r, cur.toList.drop (l.length * Dat.n α), rfl, by rw [e]; exact hg, by rw [e]; simpa using hcs, hle, hcm, hO g rfl, h1⟩
theorem own_laid {α : Type} [Dat α] {e : TypeId} {w : World} {O : Nat → Prop} {l : List α} {g cap : Nat} {r : List (List Value)} {tail : List Value} (hg : w.heap[g]? = some (.cells (r.flatten ++ tail).toArray e (0, 0))) (hs : (r.flatten ++ tail).length = cap * Dat.n α) (hle : l.length ≤ cap) (hcm : cap ≤ maxLen) (hO : ¬ O g)
    (hr : RdL w (fun k => O k ∨ k = g) l r) : Own e w O (.slice (some ⟨g, 0, none⟩) l.length cap) l := by
  have hl : r.flatten.length = l.length * Dat.n α := by rw [cells_len hr.len.2, hr.len.1]
  refine ⟨r.flatten, ⟨hl, .inr ⟨g, cap, _, rfl, Nat.zero_le _, hg, hle, hcm, by simpa using hs, ?_⟩⟩, ?_, ?_⟩
  · rw [← hl]; exact List.take_left
  · intro k hk
    injection hk with hk
    subst hk
    exact hO
  · intro i x hx
    exact Dat.keep (hr.get i x hx) (Chg.refl Never w) (fun _ _ h => h.elim) (fun k _ hk => hk.imp_right (fun e => by injection e with e; exact e.symm))
theorem chg_setRow (w : World) (g : Nat) (cs : Array Value) : Chg (fun k => k = g) w (w.setRow g cs) :=
  ⟨rfl, rfl, rfl, by simp [World.setRow], fun k _ hk => setRow_other w g k cs hk⟩
theorem row_cell {w : World} {g : Nat} {L : List Value} {e : TypeId} (h : w.heap[g]? = some (.cells L.toArray e (0, 0))) {j : Nat} {u : Value} (hu : L[j]? = some u) : w.cell? ⟨g, j, none⟩ = some u := by
  simp only [World.cell?, h]
  simpa using hu
/-! ### the builtins -/
theorem run_copy_at {P : Program} (w : World) {dT sT ty e : TypeId} {i : TypeInfo} (ht : P.underlying dT = some (.slice e)) (hi : P.info? e = some i) {g d dLen dCap : Nat} {a : Addr} {sLen sCap : Nat} {cs L : List Value}
    (hg : w.heap[g]? = some (.cells L.toArray e (0, 0))) (hn : cs.length = Nat.min sLen dLen * i.size) (hsrc : ∀ j u, cs[j]? = some u → w.cell? (a.add j) = some u) (hfit : d + cs.length ≤ L.length) (h1 : ∀ u ∈ cs, u.oneCell' = true) :
    (Builtin.copy_ #[dT, sT] ty #[.slice (some ⟨g, d, none⟩) dLen dCap, .slice (some a) sLen sCap]).run P w = .ok (goInt (Nat.min sLen dLen)) (w.setRow g (L.take d ++ cs ++ L.drop (d + cs.length)).toArray) := by
  have hf := run_firstCells_some (P := P) w i.size (Nat.min sLen dLen) a sLen sCap cs hn hsrc
  have hst := run_storeCells_at P g d e cs 0 L.toArray w hg (by simpa using hfit) h1
  simp only [Nat.add_zero] at hst
  simp [Builtin.copy_, run_underlying ht, Builtin.lenOf, sizeOf, typeInfo, hi, hf, hst]
theorem run_clear_at {P : Program} (w : World) {t ty e : TypeId} {z : Value} (ht : P.underlying t = some (.slice e)) (hz : ∀ w, (zeroValue e).run P w = .ok z w) {g d c : Nat} {L zs : List Value} (hzs : (Builtin.zeroCells z.cells 1).toList = zs)
    (hg : w.heap[g]? = some (.cells L.toArray e (0, 0))) (hfit : d + zs.length ≤ L.length) (h1 : ∀ u ∈ zs, u.oneCell' = true) :
    (Builtin.clear_ #[t] ty #[.slice (some ⟨g, d, none⟩) 1 c]).run P w = .ok (.tuple #[]) (w.setRow g (L.take d ++ zs ++ L.drop (d + zs.length)).toArray) := by
  have hst := run_storeCells_at P g d e zs 0 L.toArray w hg (by simpa using hfit) h1
  simp only [Nat.add_zero] at hst
  simp [Builtin.clear_, run_underlying ht, hz, hzs, hst]
theorem step_append_eq {P : Program} {ops : Array Oper} {o : Oper} {a : Act} {w : World} {K : Act → World → Prop} {Q : Exit → Act → World → Prop} {E : Prop} (hgd : o.guard = none) (s x : Operand) (t tn : TypeId)
    (ho : o.op = .call { callee := .builtin .append, args := #[s, x], argTypes := #[t, tn] }) (vs vx : Value) (hs : a.eval s = vs) (hx : a.eval x = vx) {v' : Value} {w' : World} (hr : (Builtin.append_ #[t, tn] o.type #[vs, vx]).run P w = .ok v' w') (h : K (a.put o.dst v') w') :
    if Region.wanted o (yielded ops a.tmps) = true then Oper.wp P o a w K Q else E := by
  have hw : Region.wanted o (yielded ops a.tmps) = true := by simp [Region.wanted, hgd]
  rw [if_pos hw]
  exact Lib.wp_append_run w s x t tn ho vs vx hs hx v' w' hr h
theorem wp_copy_eq {P : Program} (w : World) {o : Oper} {a : Act} {K : Act → World → Prop} {Q : Exit → Act → World → Prop} (d s : Operand) (t t' : TypeId)
    (ho : o.op = .call { callee := .builtin .copy, args := #[d, s], argTypes := #[t, t'] }) (v u : Value) (hd : a.eval d = v) (hs : a.eval s = u) {v' : Value} {w' : World}
    (hr : (Builtin.copy_ #[t, t'] o.type #[v, u]).run P w = .ok v' w') (h : K (a.put o.dst v') w') : o.wp P a w K Q := by
  unfold Oper.wp execOp
  simp only [ho, resolve, invoke, builtin, Sem.run_bind, Sem.run_pure, Result.andThen_ok, List.map_toArray, List.map_cons, List.map_nil, hd, hs, hr]
  exact h
theorem wpList_copy_eq {P : Program} (w : World) {ops : Array Oper} {rest : List Oper} {o : Oper} {a : Act} {Q : Exit → Act → World → Prop} (hgd : o.guard = none) (d s : Operand) (t t' : TypeId)
    (ho : o.op = .call { callee := .builtin .copy, args := #[d, s], argTypes := #[t, t'] }) (v u : Value) (hd : a.eval d = v) (hs : a.eval s = u) {v' : Value} {w' : World}
    (hr : (Builtin.copy_ #[t, t'] o.type #[v, u]).run P w = .ok v' w') (h : wpList P ops Q rest (a.put o.dst v') w') : wpList P ops Q (o :: rest) a w :=
  wpList_plain hgd fun _ hK => wp_copy_eq w d s t t' ho v u hd hs hr (hK _ _ h)
theorem step_copy_eq {P : Program} {ops : Array Oper} {o : Oper} {a : Act} {w : World} {K : Act → World → Prop} {Q : Exit → Act → World → Prop} {E : Prop} (hgd : o.guard = none) (d s : Operand) (t t' : TypeId)
    (ho : o.op = .call { callee := .builtin .copy, args := #[d, s], argTypes := #[t, t'] }) (v u : Value) (hd : a.eval d = v) (hs : a.eval s = u) {v' : Value} {w' : World} (hr : (Builtin.copy_ #[t, t'] o.type #[v, u]).run P w = .ok v' w') (h : K (a.put o.dst v') w') :
    if Region.wanted o (yielded ops a.tmps) = true then Oper.wp P o a w K Q else E := by
  have hw : Region.wanted o (yielded ops a.tmps) = true := by simp [Region.wanted, hgd]
  rw [if_pos hw]
  exact wp_copy_eq w d s t t' ho v u hd hs hr h
end Go.Proofs.YtibeddcebefbjaaDoor
namespace Go.Proofs.YtibeddcebefbjaaDoor
open Go.RowKit

theorem elemOk_file : ElemOk Tryd.prog 34 37 2 := elemOk_of Tryd.underlying34 (z := .agg #[.string ⟨#[]⟩, .slice none 0 0]) (b := 40) (by kernel_rfl) rfl (by decide)
theorem size_file (w : World) : (sizeOf (Tryd.prog.elem 34)).run Tryd.prog w = .ok 2 w := by kernel_rfl

theorem putLoop_step (f x : File) (done : Bool) (r : List File) : putLoop f done (x :: r) = (if !done && leqB f.path x.path then [f] else []) ++ (if x.path = f.path then [] else [x]) ++ putLoop f (done || leqB f.path x.path) r := by rw [putLoop]
set_option maxHeartbeats 2000000 in
set_option maxRecDepth 100000 in
theorem refPut_any (t : List File) (f : File) (v fv : Value) (w : World) (h : Rdv w Never v t) (hf : Rdv w Never fv f.lines) (hp : f.path.size ≤ maxLen) (hl : t.length ≤ 1000000) :
    Calls Tryd.prog 47 #[v, .agg #[.string f.path, fv]] w fun e w' => ∃ r, e = .returned r ∧ Chg Never w w' ∧ Rdv w' Never r (putLoop f false t) := by
  obtain ⟨a, cap, rfl, h1, h2, _⟩ := rdv_slice h
  obtain ⟨fa, fcap, rfl, _, _, _⟩ := rdv_slice hf
  unfold maxLen at h2
  have hA : Chg Never w (w.alloc (.cells #[.string f.path, .slice fa f.lines.length fcap] 37)) := (Chg.refl Never w).alloc _
  have b0 : (w.alloc (.cells #[.string f.path, .slice fa f.lines.length fcap] 37)).cell? ⟨w.heap.size, 0, none⟩ = some (.string f.path) := by simp only [World.cell?]; rw [heap_alloc_new]; rfl
  have b1 : (w.alloc (.cells #[.string f.path, .slice fa f.lines.length fcap] 37)).cell? ⟨w.heap.size, 1, none⟩ = some (.slice fa f.lines.length fcap) := by simp only [World.cell?]; rw [heap_alloc_new]; rfl
  go_enter Tryd.func47, Tryd.ntmps47
  go_wp2_with fail
  generalize w.alloc (.cells #[.string f.path, .slice fa f.lines.length fcap] 37) = w1 at hA b0 b1 ⊢
  generalize w.heap.size = B at b0 b1 ⊢
  have h := h.never hA
  have hf := hf.never hA
  obtain ⟨_, _, hav, _, _, h3⟩ := rdv_slice h
  simp only [Value.slice.injEq, true_and] at hav
  obtain ⟨rfl, rfl⟩ := hav
  go_loopw [5, 6, 7] (fun o dn i wr => ∃ (k : Nat) (done : Bool) (L : List File), k ≤ t.length ∧ i = .int .i64 k ∧ dn = .bool done ∧ OwnN 37 w1 wr o L ∧ L.length ≤ 2 * k ∧ Hid (L ++ putLoop f done (t.drop k) = putLoop f false t)) (fun _ _ i _ => t.length - (intOf i).toNat)
  case atStart => exact ⟨0, false, [], Nat.zero_le _, rfl, rfl, ownN_nil _ (Chg.refl _ _), Nat.le_refl _, rfl⟩
  case round =>
    obtain ⟨k, done, L, hk, rfl, rfl, hn, hL, hP⟩ := hrel
    have q0 := hn.chg.cellNever b0
    have q1 := hn.chg.cellNever b1
    by_cases hlt : k < t.length
    · obtain ⟨x, hx⟩ : ∃ x, t[k]? = some x := ⟨t[k], by simp [hlt]⟩
      obtain ⟨b, off, lv, rfl, _, _, c0, c1, hps, hlv⟩ := elems_file h3 hx
      obtain ⟨la, lcap, rfl, _, _, _⟩ := rdv_slice hlv
      have C0 := Lib.hid c0
      have C1 := Lib.hid c1
      have c0 := hn.chg.cellNever c0
      have c1 := hn.chg.cellNever c1
      have HD := Lib.hid (drop_eq hx)
      clear hx
      cases done with
      | true =>
        by_cases e : x.path = f.path
        · have HN : Hid (L ++ putLoop f true (t.drop (k + 1)) = putLoop f false t) := by
            rw [Hid, ← hP.out, HD.out, putLoop_step]; simp [e]
          have t1 : (x.path.toList == f.path.toList) = true := by rw [e]; exact beq_self_eq_true _
          clear e hP
          go_wp2_with fail
          go_quiet (fail)
          generalize hwqw5 : World.drewN wr _ = w5
          have hn5 := hwqw5 ▸ hn.never ((Chg.refl Never wr).drewN _)
          clear hwqw5 hn
          clear c0 c1 q0 q1
          have c0 := (hn5).chg.cellNever C0.out
          have c1 := (hn5).chg.cellNever C1.out
          have q0 := (hn5).chg.cellNever b0
          have q1 := (hn5).chg.cellNever b1
          go_wp2_with fail
          go_quiet (fail)
          generalize hwqw7 : World.drewN w5 _ = w7
          have hn7 := hwqw7 ▸ hn5.never ((Chg.refl Never w5).drewN _)
          clear hwqw7 hn5
          clear c0 c1 q0 q1
          have c0 := (hn7).chg.cellNever C0.out
          have c1 := (hn7).chg.cellNever C1.out
          have q0 := (hn7).chg.cellNever b0
          have q1 := (hn7).chg.cellNever b1
          go_wp2_with fail
          go_roundw
          case rel => exact ⟨k + 1, true, L, by omega, by go_num, rfl, hn7, by first | omega | (simp; omega), HN⟩
          case measure => simp [intOf] <;> omega
        · have HN : Hid ((L ++ [x]) ++ putLoop f true (t.drop (k + 1)) = putLoop f false t) := by
            rw [Hid, ← hP.out, HD.out, putLoop_step]; simp [e]
          have t1 := str_beq_false e
          clear e hP
          go_wp2_with fail
          go_quiet (fail)
          generalize hwqw5 : World.drewN wr _ = w5
          have hn5 := hwqw5 ▸ hn.never ((Chg.refl Never wr).drewN _)
          clear hwqw5 hn
          clear c0 c1 q0 q1
          have c0 := (hn5).chg.cellNever C0.out
          have c1 := (hn5).chg.cellNever C1.out
          have q0 := (hn5).chg.cellNever b0
          have q1 := (hn5).chg.cellNever b1
          go_wp2_with fail
          go_quiet (fail)
          generalize hwqw7 : World.drewN w5 _ = w7
          have hn7 := hwqw7 ▸ hn5.never ((Chg.refl Never w5).drewN _)
          clear hwqw7 hn5
          clear c0 c1 q0 q1
          have c0 := (hn7).chg.cellNever C0.out
          have c1 := (hn7).chg.cellNever C1.out
          have q0 := (hn7).chg.cellNever b0
          have q1 := (hn7).chg.cellNever b1
          have hyw8 : Dat.rd _ (fun k => Never k ∨ _ = some k) _ x := ⟨_, rfl, hps, hn7.away hlv⟩
          go_wp2_with (at_builtin; refine wpList_push (by rfl) _ _ 34 (by rfl) elemOk_file (O := Never) (l := L) (y := x) (by rfl) (by rfl) (by rfl) hn7.own hyw8 (fun _ h => h.elim) (by first | omega | (simp; omega)) ?_; intro vw8 w8 hown2 hc2 hk2; have hn8 := hn7.step1 hown2 hc2 hk2; clear hown2 hc2 hk2 hn7 hyw8; obtain ⟨vaw8, vnw8, vcw8, rfl⟩ := own_isSlice hn8.own)
          clear c0 c1 q0 q1
          have c0 := (hn8).chg.cellNever C0.out
          have c1 := (hn8).chg.cellNever C1.out
          have q0 := (hn8).chg.cellNever b0
          have q1 := (hn8).chg.cellNever b1
          go_wp2_with fail
          go_roundw
          case rel => exact ⟨k + 1, true, L ++ [x], by omega, by go_num, rfl, hn8, by first | omega | (simp; omega), HN⟩
          case measure => simp [intOf] <;> omega
      | false =>
        rcases less_tri x.path f.path with g | g | g
        · have HN : Hid ((L ++ [x]) ++ putLoop f false (t.drop (k + 1)) = putLoop f false t) := by
            have e1 : leqB f.path x.path = false := by
              rw [Bool.eq_false_iff]; intro e
              rw [leqB_true.1 e] at g; cases g
            rw [Hid, ← hP.out, HD.out, putLoop_step, e1]; simp [less_ne g]
          have a1 : Op.bytesLess f.path.toList x.path.toList = false := less_asymm g
          have a2 := str_beq_false (less_ne g).symm
          have t1 := str_beq_false (less_ne g)
          clear g hP
          go_wp2_with fail
          go_quiet (fail)
          generalize hwqw5 : World.drewN wr _ = w5
          have hn5 := hwqw5 ▸ hn.never ((Chg.refl Never wr).drewN _)
          clear hwqw5 hn
          clear c0 c1 q0 q1
          have c0 := (hn5).chg.cellNever C0.out
          have c1 := (hn5).chg.cellNever C1.out
          have q0 := (hn5).chg.cellNever b0
          have q1 := (hn5).chg.cellNever b1
          go_wp2_with fail
          go_quiet (fail)
          generalize hwqw7 : World.drewN w5 _ = w7
          have hn7 := hwqw7 ▸ hn5.never ((Chg.refl Never w5).drewN _)
          clear hwqw7 hn5
          clear c0 c1 q0 q1
          have c0 := (hn7).chg.cellNever C0.out
          have c1 := (hn7).chg.cellNever C1.out
          have q0 := (hn7).chg.cellNever b0
          have q1 := (hn7).chg.cellNever b1
          have hyw8 : Dat.rd _ (fun k => Never k ∨ _ = some k) _ x := ⟨_, rfl, hps, hn7.away hlv⟩
          go_wp2_with (at_builtin; refine wpList_push (by rfl) _ _ 34 (by rfl) elemOk_file (O := Never) (l := L) (y := x) (by rfl) (by rfl) (by rfl) hn7.own hyw8 (fun _ h => h.elim) (by first | omega | (simp; omega)) ?_; intro vw8 w8 hown2 hc2 hk2; have hn8 := hn7.step1 hown2 hc2 hk2; clear hown2 hc2 hk2 hn7 hyw8; obtain ⟨vaw8, vnw8, vcw8, rfl⟩ := own_isSlice hn8.own)
          clear c0 c1 q0 q1
          have c0 := (hn8).chg.cellNever C0.out
          have c1 := (hn8).chg.cellNever C1.out
          have q0 := (hn8).chg.cellNever b0
          have q1 := (hn8).chg.cellNever b1
          go_wp2_with fail
          go_roundw
          case rel => exact ⟨k + 1, false, L ++ [x], by omega, by go_num, rfl, hn8, by first | omega | (simp; omega), HN⟩
          case measure => simp [intOf] <;> omega
        · have HN : Hid ((L ++ [f]) ++ putLoop f true (t.drop (k + 1)) = putLoop f false t) := by
            have e1 : leqB f.path x.path = true := leqB_true.2 (by rw [g]; exact less_irrefl _)
            rw [Hid, ← hP.out, HD.out, putLoop_step, e1]; simp [g]
          have a1 : Op.bytesLess f.path.toList x.path.toList = false := by rw [g]; exact bl_irrefl _
          have a2 : (f.path.toList == x.path.toList) = true := by rw [g]; exact beq_self_eq_true _
          have t1 : (x.path.toList == f.path.toList) = true := by rw [g]; exact beq_self_eq_true _
          clear g hP
          go_wp2_with fail
          go_quiet (fail)
          generalize hwqw5 : World.drewN wr _ = w5
          have hn5 := hwqw5 ▸ hn.never ((Chg.refl Never wr).drewN _)
          clear hwqw5 hn
          clear c0 c1 q0 q1
          have c0 := (hn5).chg.cellNever C0.out
          have c1 := (hn5).chg.cellNever C1.out
          have q0 := (hn5).chg.cellNever b0
          have q1 := (hn5).chg.cellNever b1
          have hyw6 : Dat.rd _ (fun k => Never k ∨ _ = some k) _ f := ⟨_, rfl, hp, hn5.away hf⟩
          go_wp2_with (at_builtin; refine wpList_push (by rfl) _ _ 34 (by rfl) elemOk_file (O := Never) (l := L) (y := f) (by rfl) (by rfl) (by rfl) hn5.own hyw6 (fun _ h => h.elim) (by first | omega | (simp; omega)) ?_; intro vw6 w6 hown2 hc2 hk2; have hn6 := hn5.step1 hown2 hc2 hk2; clear hown2 hc2 hk2 hn5 hyw6; obtain ⟨vaw6, vnw6, vcw6, rfl⟩ := own_isSlice hn6.own)
          clear c0 c1 q0 q1
          have c0 := (hn6).chg.cellNever C0.out
          have c1 := (hn6).chg.cellNever C1.out
          have q0 := (hn6).chg.cellNever b0
          have q1 := (hn6).chg.cellNever b1
          go_wp2_with fail
          go_quiet (fail)
          generalize hwqw7 : World.drewN w6 _ = w7
          have hn7 := hwqw7 ▸ hn6.never ((Chg.refl Never w6).drewN _)
          clear hwqw7 hn6
          clear c0 c1 q0 q1
          have c0 := (hn7).chg.cellNever C0.out
          have c1 := (hn7).chg.cellNever C1.out
          have q0 := (hn7).chg.cellNever b0
          have q1 := (hn7).chg.cellNever b1
          go_wp2_with fail
          go_roundw
          case rel => exact ⟨k + 1, true, L ++ [f], by omega, by go_num, rfl, hn7, by first | omega | (simp; omega), HN⟩
          case measure => simp [intOf] <;> omega
        · have HN : Hid ((L ++ [f] ++ [x]) ++ putLoop f true (t.drop (k + 1)) = putLoop f false t) := by
            have e1 : leqB f.path x.path = true := leqB_true.2 (less_asymm g)
            rw [Hid, ← hP.out, HD.out, putLoop_step, e1]; simp [(less_ne g).symm]
          have a1 : Op.bytesLess f.path.toList x.path.toList = true := g
          have t1 := str_beq_false (less_ne g).symm
          clear g hP
          go_wp2_with fail
          go_quiet (fail)
          generalize hwqw5 : World.drewN wr _ = w5
          have hn5 := hwqw5 ▸ hn.never ((Chg.refl Never wr).drewN _)
          clear hwqw5 hn
          clear c0 c1 q0 q1
          have c0 := (hn5).chg.cellNever C0.out
          have c1 := (hn5).chg.cellNever C1.out
          have q0 := (hn5).chg.cellNever b0
          have q1 := (hn5).chg.cellNever b1
          have hyw6 : Dat.rd _ (fun k => Never k ∨ _ = some k) _ f := ⟨_, rfl, hp, hn5.away hf⟩
          go_wp2_with (at_builtin; refine wpList_push (by rfl) _ _ 34 (by rfl) elemOk_file (O := Never) (l := L) (y := f) (by rfl) (by rfl) (by rfl) hn5.own hyw6 (fun _ h => h.elim) (by first | omega | (simp; omega)) ?_; intro vw6 w6 hown2 hc2 hk2; have hn6 := hn5.step1 hown2 hc2 hk2; clear hown2 hc2 hk2 hn5 hyw6; obtain ⟨vaw6, vnw6, vcw6, rfl⟩ := own_isSlice hn6.own)
          clear c0 c1 q0 q1
          have c0 := (hn6).chg.cellNever C0.out
          have c1 := (hn6).chg.cellNever C1.out
          have q0 := (hn6).chg.cellNever b0
          have q1 := (hn6).chg.cellNever b1
          go_wp2_with fail
          go_quiet (fail)
          generalize hwqw7 : World.drewN w6 _ = w7
          have hn7 := hwqw7 ▸ hn6.never ((Chg.refl Never w6).drewN _)
          clear hwqw7 hn6
          clear c0 c1 q0 q1
          have c0 := (hn7).chg.cellNever C0.out
          have c1 := (hn7).chg.cellNever C1.out
          have q0 := (hn7).chg.cellNever b0
          have q1 := (hn7).chg.cellNever b1
          have hyw8 : Dat.rd _ (fun k => Never k ∨ _ = some k) _ x := ⟨_, rfl, hps, hn7.away hlv⟩
          go_wp2_with (at_builtin; refine wpList_push (by rfl) _ _ 34 (by rfl) elemOk_file (O := Never) (l := L ++ [f]) (y := x) (by rfl) (by rfl) (by rfl) hn7.own hyw8 (fun _ h => h.elim) (by first | omega | (simp; omega)) ?_; intro vw8 w8 hown2 hc2 hk2; have hn8 := hn7.step1 hown2 hc2 hk2; clear hown2 hc2 hk2 hn7 hyw8; obtain ⟨vaw8, vnw8, vcw8, rfl⟩ := own_isSlice hn8.own)
          clear c0 c1 q0 q1
          have c0 := (hn8).chg.cellNever C0.out
          have c1 := (hn8).chg.cellNever C1.out
          have q0 := (hn8).chg.cellNever b0
          have q1 := (hn8).chg.cellNever b1
          go_wp2_with fail
          go_roundw
          case rel => exact ⟨k + 1, true, L ++ [f] ++ [x], by omega, by go_num, rfl, hn8, by first | omega | (simp; omega), HN⟩
          case measure => simp [intOf] <;> omega
    · have hP2 := hP.out
      rw [List.drop_eq_nil_of_le (by omega), putLoop] at hP2
      have HP := Lib.hid hP2
      clear hP hP2
      cases done with
      | true =>
        have HE : Hid (L = putLoop f false t) := by rw [Hid, ← HP.out]; simp
        go_wp2_with fail
        go_ret
        exact ⟨_, rfl, hA.trans hn.chg, by rw [← HE.out]; exact hn.own.rdv.sub (fun _ _ h => h.elim)⟩
      | false =>
        have HE : Hid (L ++ [f] = putLoop f false t) := by rw [Hid, ← HP.out]; simp
        have hyf : Dat.rd wr (fun k => Never k ∨ u5.ownBlock = some k) [.string f.path, .slice fa f.lines.length fcap] f := ⟨_, rfl, hp, hn.away hf⟩
        go_wp2_with (at_builtin; refine wpList_push (by rfl) _ _ 34 (by rfl) elemOk_file (O := Never) (l := L) (y := f) (by rfl) (by rfl) (by rfl) hn.own hyf (fun _ h => h.elim) (by omega) ?_; intro v' w2 hown2 hc2 hk2; have hn2 := hn.step1 hown2 hc2 hk2; clear hown2 hc2 hk2 hn hyf; obtain ⟨va, vn, vc, rfl⟩ := own_isSlice hn2.own)
        go_wp2_with fail
        go_ret
        exact ⟨_, rfl, hA.trans hn2.chg, by rw [← HE.out]; exact hn2.own.rdv.sub (fun _ _ h => h.elim)⟩
end Go.Proofs.YtibeddcebefbjaaDoor
namespace Go.Proofs.YtibeddcebefbjaaDoor
open Go.RowKit

theorem info_file : ∃ i, Tryd.prog.info? 37 = some i ∧ i.size = 2 ∧ i.zero = some (.agg #[.string ⟨#[]⟩, .slice none 0 0]) ∧ i.bytes ≤ 128 := by
  obtain ⟨i, h1, h2, h3, h4⟩ := info_parts (P := Tryd.prog) (e := 37) (z := .agg #[.string ⟨#[]⟩, .slice none 0 0]) (size := 2) (bytes := 40) (by kernel_rfl)
  exact ⟨i, h1, h3, h2, by omega⟩
theorem zero_file : (Builtin.zeroCells (Value.agg #[.string ⟨#[]⟩, .slice none 0 0]).cells 1).toList = [.string ⟨#[]⟩, .slice none 0 0] := by
  simp [Builtin.zeroCells, Value.cells, Array.range, Array.ofFn]
  try rfl
theorem take_two {a b : List Value} {k : Nat} (h : a.length = k) : (a ++ b).take k = a := by subst h; exact List.take_left
theorem drop_two {a b : List Value} {k : Nat} (h : a.length = k) : (a ++ b).drop k = b := by subst h; exact List.drop_left
set_option maxHeartbeats 2000000 in
set_option maxRecDepth 100000 in
theorem delete_any (T : List File) (i : Nat) (v : Value) (w0 w : World) (hn : OwnN 37 w0 w v T) (hi : i < T.length) (hT : T.length ≤ 1000000) :
    Calls Tryd.prog 58 #[v, .int .i64 i, .int .i64 ((i : Int) + 1)] w fun e w' => ∃ r, e = .returned r ∧ OwnN 37 w0 w' r (dropAt T i) ∧ Chg (OwnB v) w w' ∧ (∀ k, r.ownBlock = some k → v.ownBlock = some k) := by
  obtain ⟨g, cap, r, tail, rfl, hg, hsz, hle, hcm, _, hr⟩ := own_rows hn.own (by omega)
  obtain ⟨hrl, hrq⟩ := hr.len
  have hrq : ∀ c ∈ r, c.length = 2 := hrq
  have hsz : (r.flatten ++ tail).length = cap * 2 := hsz
  obtain ⟨inf, hinf, hi2, _, _⟩ := info_file
  have hfl : r.flatten.length = T.length * 2 := by rw [cells_len hrq, hrl]
  have hnew : w0.heap.size ≤ g := hn.new g rfl
  have hgl : g < w.heap.size := (Array.getElem?_eq_some_iff.1 hg).1
  have hRow := Lib.hid hr
  unfold maxLen at hcm
  -- what moves to the left
  have hm1 : ((r.drop (i + 1)).flatten).length = (T.length - (i + 1)) * 2 := by rw [cells_len (fun c hc => hrq c (List.mem_of_mem_drop hc)), List.length_drop, hrl]
  obtain ⟨A, hA, hsrc⟩ : ∃ A : Addr, (if cap = i + 1 then some (⟨g, 0, none⟩ : Addr) else some ⟨g, (i + 1) * 2, none⟩) = some A ∧ Hid (∀ j u, ((r.drop (i + 1)).flatten)[j]? = some u → w.drew.cell? (A.add j) = some u) := by
    by_cases h : cap = i + 1
    · refine ⟨⟨g, 0, none⟩, by rw [if_pos h], fun j u hu => ?_⟩
      have h0 : (r.drop (i + 1)).flatten = [] := List.eq_nil_of_length_eq_zero (by rw [hm1]; omega)
      rw [h0] at hu
      simp at hu
    · refine ⟨⟨g, (i + 1) * 2, none⟩, by rw [if_neg h], fun j u hu => ?_⟩
      rw [Addr.add_lit]
      refine row_cell (w := w.drew) hg ?_
      rw [← cells_drop r (i + 1) hrq, List.getElem?_drop] at hu
      rw [List.getElem?_append_left (List.getElem?_eq_some_iff.1 hu).1]
      exact hu
  have hone : ∀ u ∈ (r.drop (i + 1)).flatten, u.oneCell' = true := fun u hu => by
    obtain ⟨c, hc, hu⟩ := List.mem_flatten.1 hu
    exact hr.one c (List.mem_of_mem_drop hc) u hu
  have hrun1 : ∀ ty, (Builtin.append_ #[34, 34] ty #[.slice (some ⟨g, 0, none⟩) i cap, .slice (some A) (T.length - (i + 1)) (cap - (i + 1))]).run Tryd.prog w.drew = _ := fun ty =>
    run_append_room (P := Tryd.prog) (ty := ty) w.drew 34 37 inf Tryd.underlying34 hinf g i cap (r.flatten ++ tail).toArray hg A (T.length - (i + 1)) (cap - (i + 1)) ((r.drop (i + 1)).flatten) (by rw [hm1, hi2]) hsrc.out hone (by omega) (by rw [hi2, hm1]; simp only [List.size_toArray]; omega)
  have hE1 : (r.flatten ++ tail).take (i * 2) = (r.take i).flatten := by
    rw [← cells_take r i hrq, List.take_append_of_le_length (by rw [hfl]; omega)]
  rw [hi2] at hrun1
  simp only [List.toList_toArray, hE1] at hrun1
  have hi1 : i + (T.length - (i + 1)) = T.length - 1 := by omega
  rw [hi1] at hrun1
  have hm2 : ((r.take i).flatten ++ (r.drop (i + 1)).flatten).length = (T.length - 1) * 2 := by
    rw [List.length_append, hm1, cells_len (fun c hc => hrq c (List.mem_of_mem_take hc)), List.length_take, hrl]; omega
  have hm3 : ((r.flatten ++ tail).drop (i * 2 + ((r.drop (i + 1)).flatten).length)).length = (cap - (T.length - 1)) * 2 := by
    rw [List.length_drop, hsz, hm1]; omega
  generalize (r.flatten ++ tail).drop (i * 2 + ((r.drop (i + 1)).flatten).length) = rest at hrun1 hm3
  have hg1 : (w.drew.setRow g ((r.take i).flatten ++ (r.drop (i + 1)).flatten ++ rest).toArray).heap[g]? = some (.cells ((r.take i).flatten ++ (r.drop (i + 1)).flatten ++ rest).toArray 37 (0, 0)) := setRow_heap w.drew g _ _ _ _ hg
  have hc1 := chg_setRow w.drew g ((r.take i).flatten ++ (r.drop (i + 1)).flatten ++ rest).toArray
  generalize w.drew.setRow g ((r.take i).flatten ++ (r.drop (i + 1)).flatten ++ rest).toArray = W1 at hrun1 hg1 hc1
  have hzv : ∀ w, (zeroValue 37).run Tryd.prog w = .ok (.agg #[.string ⟨#[]⟩, .slice none 0 0]) w := fun w => by kernel_rfl
  have hcl : ∀ ty c, (Builtin.clear_ #[34] ty #[.slice (some ⟨g, (T.length - 1) * 2, none⟩) 1 c]).run Tryd.prog W1 = _ := fun ty c =>
    run_clear_at (P := Tryd.prog) (ty := ty) (c := c) W1 Tryd.underlying34 hzv (zs := [.string ⟨#[]⟩, .slice none 0 0]) zero_file hg1 (by rw [List.length_append, hm2, hm3]; simp; omega) (by simp [Value.oneCell'])
  rw [take_two hm2] at hcl
  generalize hrest : List.drop ((T.length - 1) * 2 + [Value.string ⟨#[]⟩, Value.slice none 0 0].length) ((r.take i).flatten ++ (r.drop (i + 1)).flatten ++ rest) = rest2 at hcl
  have hm4 : rest2.length = (cap - T.length) * 2 := by
    rw [← hrest, List.length_drop, List.length_append, hm2, hm3]; simp; omega
  have hg2 : (W1.setRow g ((r.take i).flatten ++ (r.drop (i + 1)).flatten ++ [Value.string ⟨#[]⟩, Value.slice none 0 0] ++ rest2).toArray).heap[g]? = some (.cells ((r.take i).flatten ++ (r.drop (i + 1)).flatten ++ [Value.string ⟨#[]⟩, Value.slice none 0 0] ++ rest2).toArray 37 (0, 0)) := setRow_heap W1 g _ _ _ _ hg1
  have hc2 := chg_setRow W1 g ((r.take i).flatten ++ (r.drop (i + 1)).flatten ++ [Value.string ⟨#[]⟩, Value.slice none 0 0] ++ rest2).toArray
  generalize W1.setRow g ((r.take i).flatten ++ (r.drop (i + 1)).flatten ++ [Value.string ⟨#[]⟩, Value.slice none 0 0] ++ rest2).toArray = W2 at hcl hg2 hc2
  have hcc : Chg (fun k => k = g) w W2 := ((Chg.refl (fun k => k = g) w).drew.trans hc1).trans hc2
  have hfin : Hid (OwnN 37 w0 W2 (.slice (some ⟨g, 0, none⟩) (T.length - 1) cap) (dropAt T i) ∧ Chg (OwnB (.slice (some ⟨g, 0, none⟩) T.length cap)) w W2 ∧ (∀ k, (Value.slice (some ⟨g, 0, none⟩) (T.length - 1) cap).ownBlock = some k → (Value.slice (some ⟨g, 0, none⟩) T.length cap).ownBlock = some k)) := by
    have hdl : (dropAt T i).length = T.length - 1 := by unfold dropAt; rw [List.length_append, List.length_take, List.length_drop]; omega
    have hrr := ((hRow.out.take i).app (hRow.out.drop (i + 1))).keep (O'' := fun k => Never k ∨ k = g) hcc (fun k _ hk => .inr hk) (fun k _ hk => hk)
    have := own_laid (e := 37) (w := W2) (O := Never) (l := dropAt T i) (g := g) (cap := cap) (r := r.take i ++ r.drop (i + 1)) (tail := [Value.string ⟨#[]⟩, Value.slice none 0 0] ++ rest2) (by rw [List.flatten_append, ← List.append_assoc]; exact hg2)
      (by rw [List.flatten_append, List.length_append, hm2, List.length_append, hm4]; show _ = cap * 2; simp; omega) (by omega) (by unfold maxLen; omega) (fun h => h) hrr
    rw [hdl] at this
    exact ⟨⟨this, fun k hk => by injection hk with hk; subst hk; exact hnew, hn.chg.trans' hcc (fun k hk h => by omega)⟩, hcc.mono (fun k _ h => by rw [h]; rfl), fun k h => h⟩
  clear hg hsz hr hrq hfl hsrc hone hm1 hm2 hm3 hm4 hE1 hg1 hg2 hc1 hc2 hcc hrest hRow hinf hzv hn hrl
  have h1 : ((i : Int) == (i : Int) + 1) = false := beq_eq_false_iff_ne.2 (by omega)
  have h2 : (T.length - 1 : Nat) + 1 = T.length := by omega
  have h3 : T.length - (T.length - 1) = 1 := by omega
  have h4 : ¬ cap = T.length - 1 := by omega
  have h5 : ((i : Int) + 1).toNat = i + 1 := by omega
  have h6 : i ≤ cap := by omega
  have h7 : i + 1 ≤ cap := by omega
  have h8 : (i : Int) + 1 ≤ T.length := by omega
  have h9 : (0 : Int) ≤ (i : Int) + 1 := by omega
  go_enter Tryd.func58, Tryd.ntmps58
  go_wp2_with fail
  refine wp_region_held_drew (S := fun _ => True) (by kernel_rfl) trivial (fun hH => ?_)
  refine' wpAnyH_take (i := 0) ?hi0 (by kernel_rfl) (by kernel_rfl) (by kernel_rfl) ?hQ0 (Or.inl ⟨?hw0, ?hy0⟩) (by assumption) ?_
  case hi0 => (simp only [List.getElem?_toArray, List.getElem?_cons_succ, List.getElem?_cons_zero]; rfl)
  case hQ0 => exact fun _ _ _ h => h
  case hw0 => rfl
  case hy0 => (intro w' hSw; (try dsimp only at hSw); go_simp; all_goals with_reducible rfl)
  try simp only [Act.put, List.setIfInBounds_toArray, List.set_cons_zero, List.set_cons_succ]
  refine' wpAnyH_take (i := 1) ?hi1 (by kernel_rfl) (by kernel_rfl) (by kernel_rfl) ?hQ1 (Or.inl ⟨?hw1, ?hy1⟩) (by assumption) ?_
  case hi1 => (simp only [List.getElem?_toArray, List.getElem?_cons_succ, List.getElem?_cons_zero]; rfl)
  case hQ1 => exact fun _ _ _ h => h
  case hw1 => rfl
  case hy1 => (intro w' hSw; (try dsimp only at hSw); go_simp; all_goals with_reducible rfl)
  try simp only [Act.put, List.setIfInBounds_toArray, List.set_cons_zero, List.set_cons_succ]
  refine' wpAnyH_take (i := 2) ?hi2 (by kernel_rfl) (by kernel_rfl) (by kernel_rfl) ?hQ2 (Or.inl ⟨?hw2, ?hy2⟩) (by assumption) ?_
  case hi2 => (simp only [List.getElem?_toArray, List.getElem?_cons_succ, List.getElem?_cons_zero]; rfl)
  case hQ2 => exact fun _ _ _ h => h
  case hw2 => rfl
  case hy2 => (intro w' hSw; (try dsimp only at hSw); go_simp; all_goals with_reducible rfl)
  try simp only [Act.put, List.setIfInBounds_toArray, List.set_cons_zero, List.set_cons_succ]
  refine' wpAnyH_take (i := 3) ?hi3 (by kernel_rfl) (by kernel_rfl) (by kernel_rfl) ?hQ3 (Or.inl ⟨?hw3, ?hy3⟩) (by assumption) ?_
  case hi3 => (simp only [List.getElem?_toArray, List.getElem?_cons_succ, List.getElem?_cons_zero]; rfl)
  case hQ3 => exact fun _ _ _ h => h
  case hw3 => rfl
  case hy3 => (intro w' hSw; (try dsimp only at hSw); go_simp; all_goals with_reducible rfl)
  try simp only [Act.put, List.setIfInBounds_toArray, List.set_cons_zero, List.set_cons_succ]
  refine' wpAnyH_take (i := 4) ?hi4 (by kernel_rfl) (by kernel_rfl) (by kernel_rfl) ?hQ4 (Or.inl ⟨?hw4, ?hy4⟩) (by assumption) ?_
  case hi4 => (simp only [List.getElem?_toArray, List.getElem?_cons_succ, List.getElem?_cons_zero]; rfl)
  case hQ4 => exact fun _ _ _ h => h
  case hw4 => rfl
  case hy4 => (intro w' hSw; (try dsimp only at hSw); go_simp; all_goals with_reducible rfl)
  try simp only [Act.put, List.setIfInBounds_toArray, List.set_cons_zero, List.set_cons_succ]
  refine' wpAnyH_take (i := 5) ?hi5 (by kernel_rfl) (by kernel_rfl) (by kernel_rfl) ?hQ5 (Or.inl ⟨?hw5, ?hy5⟩) (by assumption) ?_
  case hi5 => (simp only [List.getElem?_toArray, List.getElem?_cons_succ, List.getElem?_cons_zero]; rfl)
  case hQ5 => exact fun _ _ _ h => h
  case hw5 => rfl
  case hy5 => (intro w' hSw; (try dsimp only at hSw); go_simp; all_goals with_reducible rfl)
  try simp only [Act.put, List.setIfInBounds_toArray, List.set_cons_zero, List.set_cons_succ]
  refine wpAnyH_ready (rs := [6]) (by kernel_rfl) (by simp) ?_
  refine AllReadyH.cons rfl (fun K hK => ?_) AllReadyH.nil
  refine step_append_eq (by rfl) _ _ 34 34 (by rfl) _ _ (by rfl) (by rfl) (hrun1 _) ?_
  refine hK.out _ _ trivial (fun _ => ?_)
  clear hK K
  try simp only [Act.put, List.setIfInBounds_toArray, List.set_cons_zero, List.set_cons_succ]
  refine' wpAnyH_take (i := 7) ?hi7 (by kernel_rfl) (by kernel_rfl) (by kernel_rfl) ?hQ7 (Or.inl ⟨?hw7, ?hy7⟩) (by assumption) ?_
  case hi7 => (simp only [List.getElem?_toArray, List.getElem?_cons_succ, List.getElem?_cons_zero]; rfl)
  case hQ7 => exact fun _ _ _ h => h
  case hw7 => rfl
  case hy7 => (intro w' hSw; (try dsimp only at hSw); go_simp; all_goals with_reducible rfl)
  try simp only [Act.put, List.setIfInBounds_toArray, List.set_cons_zero, List.set_cons_succ]
  refine wpAnyH_done (by kernel_rfl) ?_ _
  go_wp2_with fail
  go_ret
  exact ⟨_, rfl, hfin.out⟩
end Go.Proofs.YtibeddcebefbjaaDoor
namespace Go.Proofs.YtibeddcebefbjaaDoor
open Go.RowKit

theorem rdv_at {α : Type} [Dat α] {w : World} {O : Nat → Prop} {B : Nat} {E : TypeId} {cs : List Value} {x : α} (hB : w.heap[B]? = some (.cells cs.toArray E (0, 0))) (hO : ¬ O B) (hx : Dat.rd w O cs x) : Rdv w O (.slice (some ⟨B, 0, none⟩) 1 1) [x] := by
  refine ⟨some ⟨B, 0, none⟩, 1, rfl, Nat.le_refl _, by decide, ?_⟩
  intro i y hy
  obtain rfl : i = 0 := by
    cases i with
    | zero => rfl
    | succ i => simp at hy
  simp only [List.getElem?_cons_zero, Option.some.injEq] at hy
  subst hy
  refine ⟨B, 0, cs, rfl, hO, ?_, hx⟩
  intro j u hj
  simp only [World.cell?, hB]
  simpa using hj
def insAt (T : List File) (i : Nat) (f : File) : List File := T.take i ++ f :: T.drop i
set_option maxHeartbeats 2000000 in
set_option maxRecDepth 100000 in
theorem insert_end (T : List File) (f : File) (v fv : Value) (w0 w : World) (B : Nat) (E : TypeId) (hn : OwnN 37 w0 w v T) (hT : T.length ≤ 1000000)
    (hB : w.heap[B]? = some (.cells #[.string f.path, fv] E (0, 0))) (hvB : ∀ k, v.ownBlock = some k → k ≠ B) (hf : Dat.rd w (fun k => Never k ∨ v.ownBlock = some k) [.string f.path, fv] f) :
    Calls Tryd.prog 59 #[v, .int .i64 T.length, .slice (some ⟨B, 0, none⟩) 1 1] w fun e w' => ∃ r, e = .returned r ∧ OwnN 37 w0 w' r (T ++ [f]) := by
  obtain ⟨a, cap, rfl, h1, h2, _⟩ := rdv_slice hn.own.rdv
  unfold maxLen at h2
  obtain ⟨sb, u0, hrunL, u1, _⟩ := slice_gen (P := Tryd.prog) (t := 34) (by kernel_rfl) size_file (hn.own.rdv.sub (O' := Never) (fun _ _ h => h)) T.length T.length (Nat.le_refl _) (Nat.le_refl _)
  have hrunL := fun (wx : World) => hrunL (T.length : Int) wx rfl rfl
  clear u0 u1
  have hu : Rdv w (fun k => Never k ∨ (Value.slice a T.length cap).ownBlock = some k) (.slice (some ⟨B, 0, none⟩) 1 1) [f] := rdv_at hB (fun h => h.elim (fun h => h) (fun h => hvB _ h rfl)) hf
  have hle : T.length + [f].length ≤ 1000000000 := by simp; omega
  go_enter Tryd.func59, Tryd.ntmps59
  go_wp2_with (at_builtin; refine wpList_many2 (by rfl) _ _ 34 (by rfl) elemOk_file (O := Never) (l := T) (m := [f]) (by rfl) (by rfl) hn.own hu (fun _ h => h.elim) hle ?_; intro v1 w1 hw1 hd1 hk1; have hn1 := hn.step hw1 hd1 hk1)
  go_ret
  exact ⟨_, rfl, hn1⟩
theorem min_one {k : Nat} (h : 1 ≤ k) : Nat.min 1 k = 1 := Nat.min_eq_left h
theorem minR {a b : Nat} (h : b ≤ a) : Nat.min a b = b := Nat.min_eq_right h
set_option maxHeartbeats 4000000 in
set_option maxRecDepth 100000 in
theorem insert_room (T : List File) (i : Nat) (f : File) (v fv : Value) (w0 w : World) (B : Nat) (E : TypeId) (hn : OwnN 37 w0 w v T) (hi : i < T.length) (hT : T.length ≤ 1000000)
    (hB : w.heap[B]? = some (.cells #[.string f.path, fv] E (0, 0))) (hvB : ∀ k, v.ownBlock = some k → k ≠ B) (hf : Dat.rd w (fun k => Never k ∨ v.ownBlock = some k) [.string f.path, fv] f) :
    Calls Tryd.prog 59 #[v, .int .i64 i, .slice (some ⟨B, 0, none⟩) 1 1] w fun e w' => ∃ r, e = .returned r ∧ OwnN 37 w0 w' r (insAt T i f) := by
  obtain ⟨g, cap, r, tail, rfl, hg, hsz, hle, hcm, _, hr⟩ := own_rows hn.own (by omega)
  obtain ⟨hrl, hrq⟩ := hr.len
  have hrq : ∀ c ∈ r, c.length = 2 := hrq
  have hsz : (r.flatten ++ tail).length = cap * 2 := hsz
  obtain ⟨inf, hinf, hi2, hiz, hib⟩ := info_file
  have hfl : r.flatten.length = T.length * 2 := by rw [cells_len hrq, hrl]
  have hnew : w0.heap.size ≤ g := hn.new g rfl
  have hgl : g < w.heap.size := (Array.getElem?_eq_some_iff.1 hg).1
  have hBl : B < w.heap.size := (Array.getElem?_eq_some_iff.1 hB).1
  have hgB : g ≠ B := hvB g rfl
  have hRow := Lib.hid hr
  have hf' : Dat.rd w (fun k => Never k ∨ k = g) [.string f.path, fv] f := Dat.keep hf (Chg.refl Never w) (fun _ _ h => h.elim) (fun k _ hk => hk.imp_right (fun e => by rw [e]; rfl))
  unfold maxLen at hcm
  have hd1 : ((r.drop i).flatten).length = (T.length - i) * 2 := by rw [cells_len (fun c hc => hrq c (List.mem_of_mem_drop hc)), List.length_drop, hrl]
  have hone : ∀ u ∈ (r.drop i).flatten, u.oneCell' = true := fun u hu => by
    obtain ⟨c, hc, hu⟩ := List.mem_flatten.1 hu
    exact hr.one c (List.mem_of_mem_drop hc) u hu
  have hone2 : ∀ u ∈ [Value.string f.path, fv], u.oneCell' = true := Dat.one hf
  have hE1 : (r.flatten ++ tail).take (i * 2) = (r.take i).flatten := by
    rw [← cells_take r i hrq, List.take_append_of_le_length (by rw [hfl]; omega)]
  have ht1 : ((r.take i).flatten).length = i * 2 := by rw [cells_len (fun c hc => hrq c (List.mem_of_mem_take hc)), List.length_take, hrl]; omega
  have hsrc1 : ∀ (W : World), W.heap[g]? = w.heap[g]? → ∀ j u, ((r.drop i).flatten)[j]? = some u → W.cell? ((⟨g, i * 2, none⟩ : Addr).add j) = some u := fun W hW j u hu => by
    rw [Addr.add_lit]
    refine row_cell (w := W) (hW.trans hg) ?_
    rw [← cells_drop r i hrq, List.getElem?_drop] at hu
    rw [List.getElem?_append_left (List.getElem?_eq_some_iff.1 hu).1]
    exact hu
  have hsrc2 : ∀ (W : World), W.heap[B]? = w.heap[B]? → ∀ j u, [Value.string f.path, fv][j]? = some u → W.cell? ((⟨B, 0, none⟩ : Addr).add j) = some u := fun W hW j u hu => by
    rw [Addr.add_lit]
    exact row_cell (w := W) (L := [.string f.path, fv]) (hW.trans hB) (by rwa [Nat.zero_add])
  have h1 : ((i : Int) == (T.length : Int)) = false := beq_eq_false_iff_ne.2 (by omega)
  have h1' : ¬ ((i : Int) = (T.length : Int)) := by omega
  have h5 : ((i : Int) + 1).toNat = i + 1 := by omega
  have h6 : ((T.length : Int) + 1).toNat = T.length + 1 := by omega
  have h9 : (0 : Int) ≤ (i : Int) + 1 := by omega
  have h10 : (0 : Int) ≤ (T.length : Int) + 1 := by omega
  have h11 : (i : Int) + 1 ≤ (T.length : Int) + 1 := by omega
  have h12 : (i : Int) ≤ (T.length : Int) + 1 := by omega
  have h13 : (i : Int) ≤ (T.length : Int) := by omega
  have h14 : T.length + 1 - (i + 1) = T.length - i := by omega
  have h15 : i ≤ T.length := by omega
  have h16 : i ≤ T.length + 1 := by omega
  have h17 : i + 1 ≤ T.length + 1 := by omega
  have hw1 : IntKind.i64.wrap ((i : Int) + 1) = (i : Int) + 1 := by rw [IntKind.wrap_i64]; omega
  have hw2 : IntKind.i64.wrap ((T.length : Int) + 1) = (T.length : Int) + 1 := by rw [IntKind.wrap_i64]; omega
  have hw3 : IntKind.i64.wrap ((T.length : Int) + 1 - (i : Int)) = (T.length : Int) + 1 - (i : Int) := by rw [IntKind.wrap_i64]; omega
  have hm1 : Nat.min (T.length + 1 - i) (T.length - i) = T.length - i := minR (by omega)
  by_cases hroom : T.length + 1 ≤ cap
  · have hov : ∀ lb cb, (callFunc 82 #[.slice (some ⟨B, 0, none⟩) 1 1, .slice (some ⟨g, (i + 1) * 2, none⟩) lb cb]).run Tryd.prog w = .ok (.value (.bool false)) w := fun lb cb => by
      rw [run_callFunc_extern Tryd.func82 (by kernel_rfl) (by kernel_rfl) (by kernel_rfl) (e := Extern.SlicesOverlaps.overlaps #[34, 34] #[4]) (by kernel_rfl),
        Lib.run_overlaps_apart w 34 4 37 Tryd.underlying34 2 (fun w => by kernel_rfl) ⟨B, 0, none⟩ ⟨g, (i + 1) * 2, none⟩ 1 1 lb cb (fun e => hgB e.symm) E 37 2 (r.flatten ++ tail).toArray.size (by simp only [World.shape?, hB]; rfl) (by simp only [World.shape?, hg]) (by simp only [List.size_toArray]; omega) (by simp only [World.frozen?, hB]; rfl) (by simp only [World.frozen?, hB]; rfl)]
      rfl
    have hcp1 : ∀ ty dc sc, (Builtin.copy_ #[34, 34] ty #[.slice (some ⟨g, (i + 1) * 2, none⟩) (T.length - i) dc, .slice (some ⟨g, i * 2, none⟩) (T.length + 1 - i) sc]).run Tryd.prog w.drew = _ := fun ty dc sc =>
      run_copy_at (P := Tryd.prog) w.drew (ty := ty) (dCap := dc) (sCap := sc) (cs := (r.drop i).flatten) Tryd.underlying34 hinf (L := r.flatten ++ tail) hg (by rw [hd1, hi2, hm1]) (hsrc1 w.drew rfl) (by rw [hd1, hsz]; omega) hone
    have hE2 : ((r.flatten ++ tail).take ((i + 1) * 2)).length = i * 2 + 2 := by rw [List.length_take, hsz]; omega
    have hE3 : ((r.flatten ++ tail).take ((i + 1) * 2)).take (i * 2) = (r.take i).flatten := by rw [List.take_take, show min (i * 2) ((i + 1) * 2) = i * 2 by omega, hE1]
    have hE4 : ((r.flatten ++ tail).drop ((i + 1) * 2 + ((r.drop i).flatten).length)).length = (cap - (T.length + 1)) * 2 := by rw [List.length_drop, hsz, hd1]; omega
    generalize (r.flatten ++ tail).take ((i + 1) * 2) = P1 at hcp1 hE2 hE3
    generalize (r.flatten ++ tail).drop ((i + 1) * 2 + ((r.drop i).flatten).length) = rest at hcp1 hE4
    have hg1 : (w.drew.setRow g (P1 ++ (r.drop i).flatten ++ rest).toArray).heap[g]? = some (.cells (P1 ++ (r.drop i).flatten ++ rest).toArray 37 (0, 0)) := setRow_heap w.drew g _ _ _ _ hg
    have hB1 : (w.drew.setRow g (P1 ++ (r.drop i).flatten ++ rest).toArray).heap[B]? = w.heap[B]? := setRow_other w.drew g B _ (fun e => hgB e.symm)
    have hc1 := chg_setRow w.drew g (P1 ++ (r.drop i).flatten ++ rest).toArray
    generalize w.drew.setRow g (P1 ++ (r.drop i).flatten ++ rest).toArray = W1 at hcp1 hg1 hc1 hB1
    have hcp2 : ∀ (ty : TypeId) (dc : Nat), (Builtin.copy_ #[34, 34] ty #[.slice (some ⟨g, i * 2, none⟩) (T.length + 1 - i) dc, .slice (some ⟨B, 0, none⟩) 1 1]).run Tryd.prog W1 = _ := fun ty dc =>
      run_copy_at (P := Tryd.prog) W1 (ty := ty) (dCap := dc) (sCap := 1) (cs := [Value.string f.path, fv]) Tryd.underlying34 hinf hg1 (by rw [hi2, min_one (by omega)]; rfl) (hsrc2 W1 hB1) (by rw [List.length_append, List.length_append, hE2]; simp; omega) hone2
    have hL1 : (P1 ++ (r.drop i).flatten ++ rest).take (i * 2) = (r.take i).flatten := by rw [List.append_assoc, List.take_append_of_le_length (by omega), hE3]
    have hL2 : (P1 ++ (r.drop i).flatten ++ rest).drop (i * 2 + [Value.string f.path, fv].length) = (r.drop i).flatten ++ rest := by rw [List.append_assoc]; exact drop_two hE2
    rw [hL1, hL2] at hcp2
    have hg2 : (W1.setRow g ((r.take i).flatten ++ [Value.string f.path, fv] ++ ((r.drop i).flatten ++ rest)).toArray).heap[g]? = some (.cells ((r.take i).flatten ++ [Value.string f.path, fv] ++ ((r.drop i).flatten ++ rest)).toArray 37 (0, 0)) := setRow_heap W1 g _ _ _ _ hg1
    have hc2 := chg_setRow W1 g ((r.take i).flatten ++ [Value.string f.path, fv] ++ ((r.drop i).flatten ++ rest)).toArray
    generalize W1.setRow g ((r.take i).flatten ++ [Value.string f.path, fv] ++ ((r.drop i).flatten ++ rest)).toArray = W2 at hcp2 hg2 hc2
    have hcc : Chg (fun k => k = g) w W2 := ((Chg.refl (fun k => k = g) w).drew.trans hc1).trans hc2
    have hfin : Hid (OwnN 37 w0 W2 (.slice (some ⟨g, 0, none⟩) (T.length + 1) cap) (insAt T i f)) := by
      have hdl : (insAt T i f).length = T.length + 1 := by unfold insAt; rw [List.length_append, List.length_take, List.length_cons, List.length_drop]; omega
      have hrr := ((hRow.out.take i).app (show RdL w (fun k => Never k ∨ k = g) (f :: T.drop i) ([Value.string f.path, fv] :: r.drop i) from ⟨hf', hRow.out.drop i⟩)).keep (O'' := fun k => Never k ∨ k = g) hcc (fun k _ hk => .inr hk) (fun k _ hk => hk)
      have := own_laid (e := 37) (w := W2) (O := Never) (l := insAt T i f) (g := g) (cap := cap) (r := r.take i ++ [Value.string f.path, fv] :: r.drop i) (tail := rest) (by rw [List.flatten_append, List.flatten_cons]; simp only [List.append_assoc] at hg2 ⊢; exact hg2)
        (by rw [List.flatten_append, List.flatten_cons, List.length_append, List.length_append, List.length_append, ht1, hd1, hE4]; show _ = cap * 2; simp; omega) (by omega) (by unfold maxLen; omega) (fun h => h) hrr
      rw [hdl] at this
      exact ⟨this, fun k hk => by injection hk with hk; subst hk; exact hnew, hn.chg.trans' hcc (fun k hk h => by omega)⟩
    have h18 : ¬ cap = i := by omega
    have h19 : ¬ cap = i + 1 := by omega
    have h20 : (T.length : Int) + 1 ≤ cap := by omega
    have h21 : ¬ (cap : Int) < (T.length : Int) + 1 := by omega
    clear hg hsz hr hrq hfl hsrc1 hsrc2 hone hone2 hd1 hE1 hE2 hE3 hE4 hg1 hg2 hc1 hc2 hcc hRow hinf hn hrl ht1 hf hf' hB hB1 hvB hL1 hL2
    go_enter Tryd.func59, Tryd.ntmps59
    go_wp2_with (simp only [hov])
    refine wp_region_held_drew (S := fun _ => True) (by kernel_rfl) trivial (fun hH => ?_)
    refine' wpAnyH_take (i := 0) ?hi0 (by kernel_rfl) (by kernel_rfl) (by kernel_rfl) ?hQ0 (Or.inl ⟨?hw0, ?hy0⟩) (by assumption) ?_
    case hi0 => (simp only [List.getElem?_toArray, List.getElem?_cons_succ, List.getElem?_cons_zero]; rfl)
    case hQ0 => exact fun _ _ _ h => h
    case hw0 => rfl
    case hy0 => (intro w' hSw; (try dsimp only at hSw); go_simp; all_goals with_reducible rfl)
    try simp only [Act.put, List.setIfInBounds_toArray, List.set_cons_zero, List.set_cons_succ]
    refine' wpAnyH_take (i := 1) ?hi1 (by kernel_rfl) (by kernel_rfl) (by kernel_rfl) ?hQ1 (Or.inl ⟨?hw1, ?hy1⟩) (by assumption) ?_
    case hi1 => (simp only [List.getElem?_toArray, List.getElem?_cons_succ, List.getElem?_cons_zero]; rfl)
    case hQ1 => exact fun _ _ _ h => h
    case hw1 => rfl
    case hy1 => (intro w' hSw; (try dsimp only at hSw); go_simp; all_goals with_reducible rfl)
    try simp only [Act.put, List.setIfInBounds_toArray, List.set_cons_zero, List.set_cons_succ]
    refine' wpAnyH_take (i := 2) ?hi2 (by kernel_rfl) (by kernel_rfl) (by kernel_rfl) ?hQ2 (Or.inl ⟨?hw2, ?hy2⟩) (by assumption) ?_
    case hi2 => (simp only [List.getElem?_toArray, List.getElem?_cons_succ, List.getElem?_cons_zero]; rfl)
    case hQ2 => exact fun _ _ _ h => h
    case hw2 => rfl
    case hy2 => (intro w' hSw; (try dsimp only at hSw); go_simp; all_goals with_reducible rfl)
    try simp only [Act.put, List.setIfInBounds_toArray, List.set_cons_zero, List.set_cons_succ]
    refine' wpAnyH_take (i := 3) ?hi3 (by kernel_rfl) (by kernel_rfl) (by kernel_rfl) ?hQ3 (Or.inl ⟨?hw3, ?hy3⟩) (by assumption) ?_
    case hi3 => (simp only [List.getElem?_toArray, List.getElem?_cons_succ, List.getElem?_cons_zero]; rfl)
    case hQ3 => exact fun _ _ _ h => h
    case hw3 => rfl
    case hy3 => (intro w' hSw; (try dsimp only at hSw); go_simp; all_goals with_reducible rfl)
    try simp only [Act.put, List.setIfInBounds_toArray, List.set_cons_zero, List.set_cons_succ]
    refine' wpAnyH_take (i := 4) ?hi4 (by kernel_rfl) (by kernel_rfl) (by kernel_rfl) ?hQ4 (Or.inl ⟨?hw4, ?hy4⟩) (by assumption) ?_
    case hi4 => (simp only [List.getElem?_toArray, List.getElem?_cons_succ, List.getElem?_cons_zero]; rfl)
    case hQ4 => exact fun _ _ _ h => h
    case hw4 => rfl
    case hy4 => (intro w' hSw; (try dsimp only at hSw); go_simp; all_goals with_reducible rfl)
    try simp only [Act.put, List.setIfInBounds_toArray, List.set_cons_zero, List.set_cons_succ]
    refine' wpAnyH_take (i := 5) ?hi5 (by kernel_rfl) (by kernel_rfl) (by kernel_rfl) ?hQ5 (Or.inl ⟨?hw5, ?hy5⟩) (by assumption) ?_
    case hi5 => (simp only [List.getElem?_toArray, List.getElem?_cons_succ, List.getElem?_cons_zero]; rfl)
    case hQ5 => exact fun _ _ _ h => h
    case hw5 => rfl
    case hy5 => (intro w' hSw; (try dsimp only at hSw); go_simp; all_goals with_reducible rfl)
    try simp only [Act.put, List.setIfInBounds_toArray, List.set_cons_zero, List.set_cons_succ]
    refine' wpAnyH_take (i := 6) ?hi6 (by kernel_rfl) (by kernel_rfl) (by kernel_rfl) ?hQ6 (Or.inl ⟨?hw6, ?hy6⟩) (by assumption) ?_
    case hi6 => (simp only [List.getElem?_toArray, List.getElem?_cons_succ, List.getElem?_cons_zero]; rfl)
    case hQ6 => exact fun _ _ _ h => h
    case hw6 => rfl
    case hy6 => (intro w' hSw; (try dsimp only at hSw); go_simp; all_goals with_reducible rfl)
    try simp only [Act.put, List.setIfInBounds_toArray, List.set_cons_zero, List.set_cons_succ]
    refine' wpAnyH_take (i := 7) ?hi7 (by kernel_rfl) (by kernel_rfl) (by kernel_rfl) ?hQ7 (Or.inl ⟨?hw7, ?hy7⟩) (by assumption) ?_
    case hi7 => (simp only [List.getElem?_toArray, List.getElem?_cons_succ, List.getElem?_cons_zero]; rfl)
    case hQ7 => exact fun _ _ _ h => h
    case hw7 => rfl
    case hy7 => (intro w' hSw; (try dsimp only at hSw); go_simp; all_goals with_reducible rfl)
    try simp only [Act.put, List.setIfInBounds_toArray, List.set_cons_zero, List.set_cons_succ]
    refine wpAnyH_ready (rs := [8]) (by kernel_rfl) (by simp) ?_
    refine AllReadyH.cons rfl (fun K hK => ?_) AllReadyH.nil
    refine step_copy_eq (by rfl) _ _ 34 34 (by rfl) _ _ (by rfl) (by rfl) (hcp1 _ _ _) ?_
    refine hK.out _ _ trivial (fun _ => ?_)
    clear hK K
    try simp only [Act.put, List.setIfInBounds_toArray, List.set_cons_zero, List.set_cons_succ]
    refine wpAnyH_done (by kernel_rfl) ?_ _
    go_wp2_with (at_builtin; refine wpList_copy_eq _ (by rfl) _ _ 34 34 (by rfl) _ _ (by rfl) (by rfl) (hcp2 _ _) ?_)
    go_ret
    exact ⟨_, rfl, hfin.out⟩
  · obtain rfl : cap = T.length := by omega
    have hold : (Builtin.firstCells inf.size i (.slice (some ⟨g, 0, none⟩) i T.length)).run Tryd.prog w.drew = .ok ((r.take i).flatten).toArray w.drew :=
      run_firstCells_some w.drew inf.size i ⟨g, 0, none⟩ i T.length ((r.take i).flatten) (by rw [ht1, hi2]) (fun j u hu => by
        rw [Addr.add_lit]
        refine row_cell (w := w.drew) hg ?_
        rw [← hE1, List.getElem?_take] at hu
        split at hu
        · rw [Nat.zero_add]; exact hu
        · cases hu)
    have hik : i + (T.length + 1 - i) = T.length + 1 := by omega
    have hkk : (T.length : Int) + 1 - (i : Int) = ((T.length + 1 - i : Nat) : Int) := by omega
    have hrz := fun ty => Lib.run_append_grow_zeros (P := Tryd.prog) w 34 3 ty 37 inf (.agg #[.string ⟨#[]⟩, .slice none 0 0]) .i64 .i64 Tryd.underlying34 Tryd.underlying3 hinf hiz (some ⟨g, 0, none⟩) i T.length _ hold (T.length + 1 - i) (by omega) (by omega) (by omega) (by omega)
        (by have := Nat.mul_le_mul (show T.length + 1 - i ≤ 1000001 by omega) hib; omega) (growslice_fits (by omega) (by rw [hik]; have := Nat.mul_le_mul (show T.length + 1 ≤ 1000001 by omega) hib; omega))
    rw [← hkk] at hrz
    rw [hik] at hrz
    have hGn : T.length + 1 ≤ grownCap w (T.length + 1) T.length 37 := grownCap_ge w _ _ _
    have hGm : grownCap w (T.length + 1) T.length 37 ≤ maxLen := grownCap_le_maxLen w _ _ _ (by unfold maxLen; omega)
    generalize grownCap w (T.length + 1) T.length 37 = Gc at hrz hGn hGm
    have hz1 := size_zeroCells (Value.agg #[.string ⟨#[]⟩, .slice none 0 0]).cells (T.length + 1 - i)
    have hz2 := size_zeroCells (Value.agg #[.string ⟨#[]⟩, .slice none 0 0]).cells (Gc - (T.length + 1))
    have hz3 : (Value.agg #[.string ⟨#[]⟩, .slice none 0 0]).cells.size = 2 := rfl
    rw [hz3] at hz1 hz2
    generalize Builtin.zeroCells (Value.agg #[.string ⟨#[]⟩, .slice none 0 0]).cells (T.length + 1 - i) = Z1 at hrz hz1
    generalize Builtin.zeroCells (Value.agg #[.string ⟨#[]⟩, .slice none 0 0]).cells (Gc - (T.length + 1)) = Z2 at hrz hz2
    have hA : ((r.take i).flatten).toArray ++ Z1 ++ Z2 = ((r.take i).flatten ++ (Z1.toList ++ Z2.toList)).toArray := by simp
    rw [hA] at hrz
    have hZl : (Z1.toList ++ Z2.toList).length = (Gc - i) * 2 := by rw [List.length_append, Array.length_toList, Array.length_toList, hz1, hz2]; omega
    generalize Z1.toList ++ Z2.toList = ZL at hrz hZl
    generalize hG0 : w.heap.size = G0 at hrz
    have hg0 : (w.drew.alloc (.cells ((r.take i).flatten ++ ZL).toArray 37)).heap[G0]? = some (.cells ((r.take i).flatten ++ ZL).toArray 37 (0, 0)) := by rw [← hG0]; exact heap_alloc_new w.drew _
    have hc0 : Chg Never w (w.drew.alloc (.cells ((r.take i).flatten ++ ZL).toArray 37)) := (Chg.refl Never w).drew.alloc _
    generalize w.drew.alloc (.cells ((r.take i).flatten ++ ZL).toArray 37) = W1 at hrz hg0 hc0
    have hcp1 : ∀ (ty : TypeId) (dc : Nat), (Builtin.copy_ #[34, 34] ty #[.slice (some ⟨G0, i * 2, none⟩) (T.length + 1 - i) dc, .slice (some ⟨B, 0, none⟩) 1 1]).run Tryd.prog W1 = _ := fun ty dc =>
      run_copy_at (P := Tryd.prog) W1 (ty := ty) (dCap := dc) (sCap := 1) (cs := [Value.string f.path, fv]) Tryd.underlying34 hinf hg0 (by rw [hi2, min_one (by omega)]; rfl) (hsrc2 W1 (hc0.block B hBl (fun h => h))) (by rw [List.length_append, ht1, hZl]; simp; omega) hone2
    have hL1 : ((r.take i).flatten ++ ZL).take (i * 2) = (r.take i).flatten := take_two ht1
    have hL2 : (((r.take i).flatten ++ ZL).drop (i * 2 + [Value.string f.path, fv].length)).length = (Gc - (i + 1)) * 2 := by rw [List.length_drop, List.length_append, ht1, hZl]; simp; omega
    rw [hL1] at hcp1
    generalize ((r.take i).flatten ++ ZL).drop (i * 2 + [Value.string f.path, fv].length) = R1 at hcp1 hL2
    have hg1 : (W1.setRow G0 ((r.take i).flatten ++ [Value.string f.path, fv] ++ R1).toArray).heap[G0]? = some (.cells ((r.take i).flatten ++ [Value.string f.path, fv] ++ R1).toArray 37 (0, 0)) := setRow_heap W1 G0 _ _ _ _ hg0
    have hc1 := chg_setRow W1 G0 ((r.take i).flatten ++ [Value.string f.path, fv] ++ R1).toArray
    have hgg1 : (W1.setRow G0 ((r.take i).flatten ++ [Value.string f.path, fv] ++ R1).toArray).heap[g]? = w.heap[g]? := (setRow_other W1 G0 g _ (by omega)).trans (hc0.block g hgl (fun h => h))
    generalize W1.setRow G0 ((r.take i).flatten ++ [Value.string f.path, fv] ++ R1).toArray = W2 at hcp1 hg1 hc1 hgg1
    have hcp2 : ∀ ty dc sc, (Builtin.copy_ #[34, 34] ty #[.slice (some ⟨G0, (i + 1) * 2, none⟩) (T.length - i) dc, .slice (some ⟨g, i * 2, none⟩) (T.length - i) sc]).run Tryd.prog W2.drew = _ := fun ty dc sc =>
      run_copy_at (P := Tryd.prog) W2.drew (ty := ty) (dCap := dc) (sCap := sc) (cs := (r.drop i).flatten) Tryd.underlying34 hinf (L := (r.take i).flatten ++ [Value.string f.path, fv] ++ R1) hg1 (by rw [hd1, hi2, minR (by omega)]) (hsrc1 W2.drew hgg1) (by rw [hd1, List.length_append, List.length_append, ht1, hL2]; simp; omega) hone
    have hL3 : ((r.take i).flatten ++ [Value.string f.path, fv]).length = (i + 1) * 2 := by rw [List.length_append, ht1]; simp; omega
    have hL4 : ((r.take i).flatten ++ [Value.string f.path, fv] ++ R1).take ((i + 1) * 2) = (r.take i).flatten ++ [Value.string f.path, fv] := take_two hL3
    have hL5 : (((r.take i).flatten ++ [Value.string f.path, fv] ++ R1).drop ((i + 1) * 2 + ((r.drop i).flatten).length)).length = (Gc - (T.length + 1)) * 2 := by rw [List.length_drop, List.length_append, hL3, hL2, hd1]; omega
    rw [hL4] at hcp2
    generalize ((r.take i).flatten ++ [Value.string f.path, fv] ++ R1).drop ((i + 1) * 2 + ((r.drop i).flatten).length) = rest at hcp2 hL5
    have hg2 : (W2.drew.setRow G0 ((r.take i).flatten ++ [Value.string f.path, fv] ++ (r.drop i).flatten ++ rest).toArray).heap[G0]? = some (.cells ((r.take i).flatten ++ [Value.string f.path, fv] ++ (r.drop i).flatten ++ rest).toArray 37 (0, 0)) := setRow_heap W2.drew G0 _ _ _ _ hg1
    have hc2 := chg_setRow W2.drew G0 ((r.take i).flatten ++ [Value.string f.path, fv] ++ (r.drop i).flatten ++ rest).toArray
    generalize W2.drew.setRow G0 ((r.take i).flatten ++ [Value.string f.path, fv] ++ (r.drop i).flatten ++ rest).toArray = W3 at hcp2 hg2 hc2
    have hcc : Chg (fun k => k = G0) w W3 := (((hc0.mono (fun _ _ h => h.elim)).trans hc1).drew).trans hc2
    have hfin : Hid (OwnN 37 w0 W3 (.slice (some ⟨G0, 0, none⟩) (T.length + 1) Gc) (insAt T i f)) := by
      have hdl : (insAt T i f).length = T.length + 1 := by unfold insAt; rw [List.length_append, List.length_take, List.length_cons, List.length_drop]; omega
      have hrr := ((hRow.out.take i).app (show RdL w (fun k => Never k ∨ k = g) (f :: T.drop i) ([Value.string f.path, fv] :: r.drop i) from ⟨hf', hRow.out.drop i⟩)).keep (O'' := fun k => Never k ∨ k = G0) hcc (fun k hk h => by omega) (fun k hk h => h.elim (fun h => h.elim) (fun h => by omega))
      have := own_laid (e := 37) (w := W3) (O := Never) (l := insAt T i f) (g := G0) (cap := Gc) (r := r.take i ++ [Value.string f.path, fv] :: r.drop i) (tail := rest) (by rw [List.flatten_append, List.flatten_cons]; simp only [List.append_assoc] at hg2 ⊢; exact hg2)
        (by rw [List.flatten_append, List.flatten_cons, List.length_append, List.length_append, List.length_append, ht1, hd1, hL5]; show _ = Gc * 2; simp; omega) (by omega) hGm (fun h => h) hrr
      rw [hdl] at this
      have hws := hn.chg.size
      exact ⟨this, fun k hk => by injection hk with hk; subst hk; show w0.heap.size ≤ G0; omega, hn.chg.trans' hcc (fun k hk h => by omega)⟩
    have h18 : ¬ Gc = i := by omega
    have h19 : ¬ Gc = i + 1 := by omega
    have h22 : ¬ T.length = i := by omega
    have h20 : (T.length : Int) < (T.length : Int) + 1 := by omega
    clear hg hsz hr hrq hfl hsrc1 hsrc2 hone hone2 hd1 hE1 hg0 hg1 hg2 hc0 hc1 hc2 hcc hRow hinf hn hrl ht1 hf hf' hB hvB hL1 hL2 hL3 hL4 hL5 hold hA hgg1 hG0 hkk
    go_enter Tryd.func59, Tryd.ntmps59
    go_wp2_with (first
      | (at_builtin; refine Lib.wpList_append_run _ (by rfl) _ _ _ _ (by rfl) _ _ (by rfl) (by rfl) _ _ (hrz _) ?_)
      | (at_builtin; refine wpList_copy_eq _ (by rfl) _ _ 34 34 (by rfl) _ _ (by rfl) (by rfl) (hcp1 _ _) ?_))
    refine wp_region_held_drew (S := fun _ => True) (by kernel_rfl) trivial (fun hH => ?_)
    refine' wpAnyH_take (i := 0) ?hi0 (by kernel_rfl) (by kernel_rfl) (by kernel_rfl) ?hQ0 (Or.inl ⟨?hw0, ?hy0⟩) (by assumption) ?_
    case hi0 => (simp only [List.getElem?_toArray, List.getElem?_cons_succ, List.getElem?_cons_zero]; rfl)
    case hQ0 => exact fun _ _ _ h => h
    case hw0 => rfl
    case hy0 => (intro w' hSw; (try dsimp only at hSw); go_simp; all_goals with_reducible rfl)
    try simp only [Act.put, List.setIfInBounds_toArray, List.set_cons_zero, List.set_cons_succ]
    refine' wpAnyH_take (i := 1) ?hi1 (by kernel_rfl) (by kernel_rfl) (by kernel_rfl) ?hQ1 (Or.inl ⟨?hw1, ?hy1⟩) (by assumption) ?_
    case hi1 => (simp only [List.getElem?_toArray, List.getElem?_cons_succ, List.getElem?_cons_zero]; rfl)
    case hQ1 => exact fun _ _ _ h => h
    case hw1 => rfl
    case hy1 => (intro w' hSw; (try dsimp only at hSw); go_simp; all_goals with_reducible rfl)
    try simp only [Act.put, List.setIfInBounds_toArray, List.set_cons_zero, List.set_cons_succ]
    refine' wpAnyH_take (i := 2) ?hi2 (by kernel_rfl) (by kernel_rfl) (by kernel_rfl) ?hQ2 (Or.inl ⟨?hw2, ?hy2⟩) (by assumption) ?_
    case hi2 => (simp only [List.getElem?_toArray, List.getElem?_cons_succ, List.getElem?_cons_zero]; rfl)
    case hQ2 => exact fun _ _ _ h => h
    case hw2 => rfl
    case hy2 => (intro w' hSw; (try dsimp only at hSw); go_simp; all_goals with_reducible rfl)
    try simp only [Act.put, List.setIfInBounds_toArray, List.set_cons_zero, List.set_cons_succ]
    refine' wpAnyH_take (i := 3) ?hi3 (by kernel_rfl) (by kernel_rfl) (by kernel_rfl) ?hQ3 (Or.inl ⟨?hw3, ?hy3⟩) (by assumption) ?_
    case hi3 => (simp only [List.getElem?_toArray, List.getElem?_cons_succ, List.getElem?_cons_zero]; rfl)
    case hQ3 => exact fun _ _ _ h => h
    case hw3 => rfl
    case hy3 => (intro w' hSw; (try dsimp only at hSw); go_simp; all_goals with_reducible rfl)
    try simp only [Act.put, List.setIfInBounds_toArray, List.set_cons_zero, List.set_cons_succ]
    refine' wpAnyH_take (i := 4) ?hi4 (by kernel_rfl) (by kernel_rfl) (by kernel_rfl) ?hQ4 (Or.inl ⟨?hw4, ?hy4⟩) (by assumption) ?_
    case hi4 => (simp only [List.getElem?_toArray, List.getElem?_cons_succ, List.getElem?_cons_zero]; rfl)
    case hQ4 => exact fun _ _ _ h => h
    case hw4 => rfl
    case hy4 => (intro w' hSw; (try dsimp only at hSw); go_simp; all_goals with_reducible rfl)
    try simp only [Act.put, List.setIfInBounds_toArray, List.set_cons_zero, List.set_cons_succ]
    refine' wpAnyH_take (i := 5) ?hi5 (by kernel_rfl) (by kernel_rfl) (by kernel_rfl) ?hQ5 (Or.inl ⟨?hw5, ?hy5⟩) (by assumption) ?_
    case hi5 => (simp only [List.getElem?_toArray, List.getElem?_cons_succ, List.getElem?_cons_zero]; rfl)
    case hQ5 => exact fun _ _ _ h => h
    case hw5 => rfl
    case hy5 => (intro w' hSw; (try dsimp only at hSw); go_simp; all_goals with_reducible rfl)
    try simp only [Act.put, List.setIfInBounds_toArray, List.set_cons_zero, List.set_cons_succ]
    refine' wpAnyH_take (i := 6) ?hi6 (by kernel_rfl) (by kernel_rfl) (by kernel_rfl) ?hQ6 (Or.inl ⟨?hw6, ?hy6⟩) (by assumption) ?_
    case hi6 => (simp only [List.getElem?_toArray, List.getElem?_cons_succ, List.getElem?_cons_zero]; rfl)
    case hQ6 => exact fun _ _ _ h => h
    case hw6 => rfl
    case hy6 => (intro w' hSw; (try dsimp only at hSw); go_simp; all_goals with_reducible rfl)
    try simp only [Act.put, List.setIfInBounds_toArray, List.set_cons_zero, List.set_cons_succ]
    refine' wpAnyH_take (i := 7) ?hi7 (by kernel_rfl) (by kernel_rfl) (by kernel_rfl) ?hQ7 (Or.inl ⟨?hw7, ?hy7⟩) (by assumption) ?_
    case hi7 => (simp only [List.getElem?_toArray, List.getElem?_cons_succ, List.getElem?_cons_zero]; rfl)
    case hQ7 => exact fun _ _ _ h => h
    case hw7 => rfl
    case hy7 => (intro w' hSw; (try dsimp only at hSw); go_simp; all_goals with_reducible rfl)
    try simp only [Act.put, List.setIfInBounds_toArray, List.set_cons_zero, List.set_cons_succ]
    refine wpAnyH_ready (rs := [8]) (by kernel_rfl) (by simp) ?_
    refine AllReadyH.cons rfl (fun K hK => ?_) AllReadyH.nil
    refine step_copy_eq (by rfl) _ _ 34 34 (by rfl) _ _ (by rfl) (by rfl) (hcp2 _ _ _) ?_
    refine hK.out _ _ trivial (fun _ => ?_)
    clear hK K
    try simp only [Act.put, List.setIfInBounds_toArray, List.set_cons_zero, List.set_cons_succ]
    refine wpAnyH_done (by kernel_rfl) ?_ _
    go_wp2_with fail
    go_ret
    exact ⟨_, rfl, hfin.out⟩
theorem insert_any (T : List File) (i : Nat) (f : File) (v fv : Value) (w0 w : World) (B : Nat) (E : TypeId) (hn : OwnN 37 w0 w v T) (hi : i ≤ T.length) (hT : T.length ≤ 1000000)
    (hB : w.heap[B]? = some (.cells #[.string f.path, fv] E (0, 0))) (hvB : ∀ k, v.ownBlock = some k → k ≠ B) (hf : Dat.rd w (fun k => Never k ∨ v.ownBlock = some k) [.string f.path, fv] f) :
    Calls Tryd.prog 59 #[v, .int .i64 i, .slice (some ⟨B, 0, none⟩) 1 1] w fun e w' => ∃ r, e = .returned r ∧ OwnN 37 w0 w' r (insAt T i f) := by
  rcases Nat.lt_or_ge i T.length with h | h
  · exact insert_room T i f v fv w0 w B E hn h hT hB hvB hf
  · obtain rfl : i = T.length := by omega
    have e : insAt T T.length f = T ++ [f] := by unfold insAt; rw [List.take_length, List.drop_length]
    rw [e]
    exact insert_end T f v fv w0 w B E hn hT hB hvB hf
end Go.Proofs.YtibeddcebefbjaaDoor
namespace Go.Proofs.YtibeddcebefbjaaDoor
open Go.RowKit

set_option maxRecDepth 100000 in
theorem find_cmp (x : File) (p : ByteArray) (lv : Value) (w : World) :
    Calls Tryd.prog 79 #[.agg #[.string x.path, lv], .string p] w fun e w' => e = .returned (.int .i64 (Lib.compareBytes x.path.data.toList p.data.toList)) ∧ Chg Never w w' := by
  go_enter Tryd.func79, Tryd.ntmps79
  go_wp2_with fail
  refine (Tryd.strings_Compare x.path p _).mono ?_
  rintro e w1 ⟨rfl, hw1⟩
  rw [hw1]
  go_wp2_with fail
  go_ret
  exact ⟨rfl, (Chg.refl _ _).alloc _⟩
theorem cmp_less {a b : ByteArray} : (Lib.compareBytes a.data.toList b.data.toList < 0 ↔ less a b = true) ∧ (Lib.compareBytes a.data.toList b.data.toList = 0 ↔ a = b) := by
  obtain ⟨h1, h2⟩ := compare_bl a.data.toList b.data.toList
  refine ⟨?_, ?_⟩
  · rw [h1]; unfold less; rw [Lib.toList_data, Lib.toList_data]
  · rw [h2]
    exact ⟨fun h => ByteArray.ext (Array.toList_inj.1 h), fun h => by rw [h]⟩

/-- what a binary search has told of the places from a to b -/
structure BSt (t : List File) (p : ByteArray) (a b : Nat) : Prop where
  le : a ≤ b
  top : b ≤ t.length
  lo : ∀ q f, q < a → t[q]? = some f → less f.path p = true
  hi : ∀ q f, b ≤ q → t[q]? = some f → less f.path p = false
theorem bst_start (t : List File) (p : ByteArray) : BSt t p 0 t.length :=
  ⟨Nat.zero_le _, Nat.le_refl _, fun q f h => absurd h (Nat.not_lt_zero q), fun q f h hf => by have := (List.getElem?_eq_some_iff.1 hf).1; omega⟩
theorem BSt.up {t : List File} {p : ByteArray} {a b c : Nat} {x : File} (h : BSt t p a b) (hs : Sorted t) (h1 : a ≤ c) (h2 : c < b) (hx : t[c]? = some x) (hl : less x.path p = true) : BSt t p (c + 1) b :=
  ⟨by omega, h.top, fun q f hq hf => by
    by_cases e : q = c
    · subst e; rw [hx] at hf; injection hf with hf; rw [← hf]; exact hl
    · exact less_trans (sorted_mono hs (show q < c by omega) hf hx) hl, h.hi⟩
theorem BSt.down {t : List File} {p : ByteArray} {a b c : Nat} {x : File} (h : BSt t p a b) (hs : Sorted t) (h1 : a ≤ c) (h2 : c < b) (hx : t[c]? = some x) (hl : less x.path p = false) : BSt t p a c :=
  ⟨h1, by have := h.top; omega, h.lo, fun q f hq hf => by
    by_cases e : q = c
    · subst e; rw [hx] at hf; injection hf with hf; rw [← hf]; exact hl
    · have hm := sorted_mono hs (show c < q by omega) hx hf
      cases hb : less f.path p with
      | false => rfl
      | true => have := less_trans hm hb; rw [hl] at this; cases this⟩
theorem BSt.pos {t : List File} {p : ByteArray} {a : Nat} (h : BSt t p a a) : posOf t p = a := pos_unique h.lo (fun f hf => h.hi a f (Nat.le_refl _) hf) h.top

set_option maxHeartbeats 2000000 in
set_option maxRecDepth 100000 in
theorem bs_any (t : List File) (p : ByteArray) (v : Value) (w : World) (h : Rdv w Never v t) (hs : Sorted t) (hl : t.length ≤ 1000000) :
    Calls Tryd.prog 78 #[v, .string p, .func (.func 79) #[] #[]] w fun e w' => e = .returned (.tuple #[.int .i64 (posOf t p), .bool (isAt t p)]) ∧ Chg Never w w' := by
  have HS := Lib.hid hs
  clear hs
  obtain ⟨a, cap, rfl, h1, h2, h3⟩ := rdv_slice h
  unfold maxLen at h2
  go_enter Tryd.func78, Tryd.ntmps78
  go_wp2_with fail
  go_loopw [9, 10] (fun i j wr => ∃ x y : Nat, i = .int .i64 x ∧ j = .int .i64 y ∧ Chg Never w wr ∧ BSt t p x y) (fun i j _ => (intOf j).toNat - (intOf i).toNat)
  case atStart => exact ⟨0, t.length, rfl, rfl, Chg.refl _ _, bst_start t p⟩
  case round =>
    obtain ⟨x, y, rfl, rfl, hc, hB⟩ := hrel
    have hle := hB.le
    have htop := hB.top
    by_cases hlt : x < y
    · obtain ⟨z, hz⟩ : ∃ z, (x + y) / 2 = z := ⟨_, rfl⟩
      have zI : ((x : Int) + y) / 2 = z := by omega
      have hz1 : x ≤ z := by omega
      have hz2 : z < y := by omega
      obtain ⟨f, hf⟩ : ∃ f, t[z]? = some f := ⟨t[z]'(by omega), by simp [show z < t.length by omega]⟩
      obtain ⟨b, off, lv, rfl, _, _, c0, c1, _, _⟩ := elems_file h3 hf
      have c0 := hc.cellNever c0
      have c1 := hc.cellNever c1
      have HX := Lib.hid hf
      clear hf
      cases hq : less f.path p with
      | true =>
        have t1 : decide (Lib.compareBytes f.path.data.toList p.data.toList < 0) = true := decide_eq_true (cmp_less.1.2 hq)
        go_wp2_with fail
        refine (find_cmp f p _ _).mono ?_
        rintro e w2 ⟨rfl, hc2⟩
        have hc2 := hc.trans hc2
        clear c0 c1
        go_wp2_with fail
        go_roundw
        case rel => exact ⟨z + 1, y, by go_num, rfl, hc2, hB.up HS.out hz1 hz2 HX.out hq⟩
        case measure => simp [intOf] <;> omega
      | false =>
        have t1 : decide (Lib.compareBytes f.path.data.toList p.data.toList < 0) = false := decide_eq_false (fun hh => by rw [cmp_less.1.1 hh] at hq; cases hq)
        go_wp2_with fail
        refine (find_cmp f p _ _).mono ?_
        rintro e w2 ⟨rfl, hc2⟩
        have hc2 := hc.trans hc2
        clear c0 c1
        go_wp2_with fail
        go_roundw
        case rel => exact ⟨x, z, rfl, rfl, hc2, hB.down HS.out hz1 hz2 HX.out hq⟩
        case measure => simp [intOf] <;> omega
    · obtain rfl : x = y := by omega
      have HP := Lib.hid hB.pos
      by_cases hxt : x < t.length
      · obtain ⟨f, hf⟩ : ∃ f, t[x]? = some f := ⟨t[x], by simp [hxt]⟩
        obtain ⟨b, off, lv, rfl, _, _, c0, c1, _, _⟩ := elems_file h3 hf
        have c0 := hc.cellNever c0
        have c1 := hc.cellNever c1
        by_cases e : f.path = p
        · have HI : Hid (isAt t p = true) := by unfold Hid isAt; rw [HP.out, hf]; simp [e]
          have t1 : (Lib.compareBytes f.path.data.toList p.data.toList == 0) = true := beq_iff_eq.2 (cmp_less.2.2 e)
          clear hf e
          go_wp2_with fail
          refine (find_cmp f p _ _).mono ?_
          rintro e w2 ⟨rfl, hc2⟩
          have hc2 := hc.trans hc2
          clear c0 c1
          go_wp2_with fail
          go_ret2
          exact ⟨by rw [HP.out, HI.out]; rfl, hc2⟩
        · have HI : Hid (isAt t p = false) := by unfold Hid isAt; rw [HP.out, hf]; simp [e]
          have t1 : (Lib.compareBytes f.path.data.toList p.data.toList == 0) = false := beq_eq_false_iff_ne.2 (fun hh => e (cmp_less.2.1 hh))
          clear hf e
          go_wp2_with fail
          refine (find_cmp f p _ _).mono ?_
          rintro e w2 ⟨rfl, hc2⟩
          have hc2 := hc.trans hc2
          clear c0 c1
          go_wp2_with fail
          go_ret2
          exact ⟨by rw [HP.out, HI.out]; rfl, hc2⟩
      · have HI : Hid (isAt t p = false) := by unfold Hid isAt; rw [HP.out, List.getElem?_eq_none (by omega)]; rfl
        go_wp2_with fail
        go_ret2
        exact ⟨by rw [HP.out, HI.out]; rfl, hc⟩

set_option maxHeartbeats 2000000 in
set_option maxRecDepth 100000 in
theorem find_any (t : List File) (p : ByteArray) (v : Value) (w : World) (h : Rdv w Never v t) (hs : Sorted t) (hl : t.length ≤ 1000000) :
    Calls Tryd.prog 56 #[v, .string p] w fun e w' => e = .returned (.tuple #[.int .i64 (posOf t p), .bool (isAt t p)]) ∧ Chg Never w w' := by
  obtain ⟨a, cap, rfl, h1, h2, h3⟩ := rdv_slice h
  unfold maxLen at h2
  go_enter Tryd.func56, Tryd.ntmps56
  go_wp2_with fail
  refine (bs_any t p _ _ h hs hl).mono ?_
  rintro e w1 ⟨rfl, hc⟩
  go_wp2_with fail
  go_ret2
  exact ⟨rfl, hc⟩
end Go.Proofs.YtibeddcebefbjaaDoor
