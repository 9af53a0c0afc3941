/-
  PARTS: ROWS OF A SLICE OF ITS OWN, element by element: what copy, clear, append do to one. No function of the program in sight.; THE WALKS of the document's DropOf, PutOf.
-/
import Derived.Test.YtjiaidchcldocaaGreatDoorPg18
import Derived.Lib.AppendZerosOnto
import Derived.Test.YtjiaidchcldocaaGreatDoorPg14
set_option linter.unusedVariables false
set_option linter.unusedSimpArgs false
namespace Go.Proofs.YtjiaidchcldocaaGreatDoor
open Go.RowKit

/-! ### elements and their cells -/
def RdL {α : Type} [Dat α] (w : World) (O : Nat → Prop) : List α → List (List Value) → Prop
  | [], [] => True
  | x :: l, c :: r => Dat.rd w O c x ∧ RdL w O l r
  | _, _ => False
theorem RdL.len {α : Type} [Dat α] {w : World} {O : Nat → Prop} : ∀ {l : List α} {r : List (List Value)}, RdL w O l r → r.length = l.length ∧ ∀ c ∈ r, c.length = Dat.n α
  | [], [], _ => ⟨rfl, by simp⟩
  | x :: l, c :: r, h => by
    obtain ⟨h1, h2⟩ := RdL.len h.2
    refine ⟨by rw [List.length_cons, List.length_cons, h1], fun y hy => ?_⟩
    rcases List.mem_cons.1 hy with rfl | hy
    · exact Dat.len h.1
    · exact h2 y hy
  | [], _ :: _, h => h.elim
  | _ :: _, [], h => h.elim
theorem RdL.one {α : Type} [Dat α] {w : World} {O : Nat → Prop} : ∀ {l : List α} {r : List (List Value)}, RdL w O l r → ∀ c ∈ r, ∀ u ∈ c, u.oneCell' = true
  | [], [], _ => by simp
  | x :: l, c :: r, h => by
    intro y hy
    rcases List.mem_cons.1 hy with rfl | hy
    · exact Dat.one h.1
    · exact RdL.one h.2 y hy
  | [], _ :: _, h => h.elim
  | _ :: _, [], h => h.elim
theorem RdL.take {α : Type} [Dat α] {w : World} {O : Nat → Prop} : ∀ {l : List α} {r : List (List Value)} (k : Nat), RdL w O l r → RdL w O (l.take k) (r.take k)
  | _, _, 0, _ => trivial
  | [], [], _ + 1, _ => trivial
  | _ :: _, _ :: _, k + 1, h => ⟨h.1, RdL.take k h.2⟩
  | [], _ :: _, _ + 1, h => h.elim
  | _ :: _, [], _ + 1, h => h.elim
theorem RdL.drop {α : Type} [Dat α] {w : World} {O : Nat → Prop} : ∀ {l : List α} {r : List (List Value)} (k : Nat), RdL w O l r → RdL w O (l.drop k) (r.drop k)
  | _, _, 0, h => h
  | [], [], _ + 1, _ => trivial
  | _ :: _, _ :: _, k + 1, h => RdL.drop k h.2
  | [], _ :: _, _ + 1, h => h.elim
  | _ :: _, [], _ + 1, h => h.elim
theorem RdL.app {α : Type} [Dat α] {w : World} {O : Nat → Prop} : ∀ {l m : List α} {r s : List (List Value)}, RdL w O l r → RdL w O m s → RdL w O (l ++ m) (r ++ s)
  | [], _, [], _, _, g => g
  | _ :: _, _, _ :: _, _, h, g => ⟨h.1, RdL.app h.2 g⟩
  | [], _, _ :: _, _, h, _ => h.elim
  | _ :: _, _, [], _, h, _ => h.elim
theorem RdL.keep {α : Type} [Dat α] {w w' : World} {O O' O'' : Nat → Prop} (hc : Chg O' w w') (h1 : ∀ k, k < w.heap.size → O' k → O k) (h2 : ∀ k, k < w.heap.size → O'' k → O k) : ∀ {l : List α} {r : List (List Value)}, RdL w O l r → RdL w' O'' l r
  | [], [], _ => trivial
  | _ :: _, _ :: _, h => ⟨Dat.keep h.1 hc h1 h2, RdL.keep hc h1 h2 h.2⟩
  | [], _ :: _, h => h.elim
  | _ :: _, [], h => h.elim
theorem RdL.get {α : Type} [Dat α] {w : World} {O : Nat → Prop} : ∀ {l : List α} {r : List (List Value)}, RdL w O l r → ∀ (i : Nat) (x : α), l[i]? = some x → Dat.rd w O ((r.flatten.drop (i * Dat.n α)).take (Dat.n α)) x
  | [], [], _, i, x, hx => by simp at hx
  | y :: l, c :: r, h, 0, x, hx => by
    simp only [List.getElem?_cons_zero, Option.some.injEq] at hx
    subst hx
    have e : ((c :: r).flatten.drop (0 * Dat.n α)).take (Dat.n α) = c := by
      rw [Nat.zero_mul, List.drop_zero, List.flatten_cons, ← Dat.len h.1, List.take_left]
    rw [e]; exact h.1
  | y :: l, c :: r, h, i + 1, x, hx => by
    have := RdL.get h.2 i x (by simpa using hx)
    have e : (c :: r).flatten.drop ((i + 1) * Dat.n α) = r.flatten.drop (i * Dat.n α) := by
      rw [List.flatten_cons, Nat.succ_mul, Nat.add_comm, ← List.drop_drop, ← Dat.len h.1, List.drop_left]
    rw [e]; exact this
  | [], _ :: _, h, _, _, _ => h.elim
  | _ :: _, [], h, _, _, _ => h.elim
theorem rdl_of {α : Type} [Dat α] {w : World} {O : Nat → Prop} : ∀ (l : List α) (xs : List Value), xs.length = l.length * Dat.n α → (∀ (i : Nat) (x : α), l[i]? = some x → Dat.rd w O ((xs.drop (i * Dat.n α)).take (Dat.n α)) x) → ∃ r, RdL w O l r ∧ r.flatten = xs
  | [], xs, h, _ => ⟨[], trivial, by
    have : xs = [] := List.eq_nil_of_length_eq_zero (by rw [h]; simp)
    rw [this]; rfl⟩
  | x :: l, xs, h, g => by
    obtain ⟨r, h1, h2⟩ := rdl_of l (xs.drop (Dat.n α)) (by rw [List.length_drop, h, List.length_cons, Nat.succ_mul]; omega) (fun i y hy => by
      have := g (i + 1) y (by simpa using hy)
      rw [List.drop_drop]
      rwa [show Dat.n α + i * Dat.n α = (i + 1) * Dat.n α by rw [Nat.succ_mul, Nat.add_comm]])
    have := g 0 x rfl
    rw [Nat.zero_mul, List.drop_zero] at this
    exact ⟨xs.take (Dat.n α) :: r, ⟨this, h1⟩, by rw [List.flatten_cons, h2, List.take_append_drop]⟩
theorem cells_len {q : Nat} : ∀ {r : List (List Value)}, (∀ c ∈ r, c.length = q) → r.flatten.length = r.length * q
  | [], _ => by simp
  | c :: r, h => by
    rw [List.flatten_cons, List.length_append, cells_len (r := r) (fun x hx => h x (List.mem_cons_of_mem _ hx)), h c (List.mem_cons_self ..), List.length_cons, Nat.succ_mul, Nat.add_comm]
theorem cells_take {q : Nat} : ∀ (r : List (List Value)) (k : Nat), (∀ c ∈ r, c.length = q) → r.flatten.take (k * q) = (r.take k).flatten
  | _, 0, _ => by simp
  | [], _ + 1, _ => by simp
  | c :: r, k + 1, h => by
    have e := h c (List.mem_cons_self ..)
    rw [List.take_succ_cons, List.flatten_cons, List.flatten_cons, ← cells_take r k (fun x hx => h x (List.mem_cons_of_mem _ hx)), Nat.succ_mul, Nat.add_comm, ← e, List.take_length_add_append]
theorem cells_drop {q : Nat} : ∀ (r : List (List Value)) (k : Nat), (∀ c ∈ r, c.length = q) → r.flatten.drop (k * q) = (r.drop k).flatten
  | _, 0, _ => by simp
  | [], _ + 1, _ => by simp
  | c :: r, k + 1, h => by
    have e := h c (List.mem_cons_self ..)
    rw [List.drop_succ_cons, List.flatten_cons, ← cells_drop r k (fun x hx => h x (List.mem_cons_of_mem _ hx)), Nat.succ_mul, Nat.add_comm, ← List.drop_drop, ← e, List.drop_left]

/-! ### a row's own block -/
theorem own_rows {α : Type} [Dat α] {e : TypeId} {w : World} {O : Nat → Prop} {v : Value} {l : List α} (h : Own e w O v l) (hl : 0 < l.length) :
    ∃ (g cap : Nat) (r : List (List Value)) (tail : List Value), v = .slice (some ⟨g, 0, none⟩) l.length cap ∧ w.heap[g]? = some (.cells (r.flatten ++ tail).toArray e (0, 0)) ∧ (r.flatten ++ tail).length = cap * Dat.n α ∧ l.length ≤ cap ∧ cap ≤ maxLen ∧ ¬ O g ∧ RdL w (fun k => O k ∨ k = g) l r := by
  obtain ⟨xs, hx, hO, hr⟩ := h
  rcases hx.2 with ⟨_, h0⟩ | ⟨g, cap, cur, rfl, _, hg, hle, hcm, hcs, htk⟩
  · omega
  · have hr' : ∀ (i : Nat) (x : α), l[i]? = some x → Dat.rd w (fun k => O k ∨ k = g) ((xs.drop (i * Dat.n α)).take (Dat.n α)) x := fun i x hx => Dat.keep (hr i x hx) (Chg.refl Never w) (fun _ _ h => h.elim) (fun k _ hk => hk.imp_right (fun e => by rw [e]; rfl))
    obtain ⟨r, h1, h2⟩ := rdl_of l xs hx.1 hr'
    have e : r.flatten ++ cur.toList.drop (l.length * Dat.n α) = cur.toList := by rw [h2, ← htk, List.take_append_drop]
    refine ⟨g, cap, r, cur.toList.drop (l.length * Dat.n α), rfl, by rw [e]; exact hg, by rw [e]; simpa using hcs, hle, hcm, hO g rfl, h1⟩
theorem own_laid {α : Type} [Dat α] {e : TypeId} {w : World} {O : Nat → Prop} {l : List α} {g cap : Nat} {r : List (List Value)} {tail : List Value} (hg : w.heap[g]? = some (.cells (r.flatten ++ tail).toArray e (0, 0))) (hs : (r.flatten ++ tail).length = cap * Dat.n α) (hle : l.length ≤ cap) (hcm : cap ≤ maxLen) (hO : ¬ O g)
    (hr : RdL w (fun k => O k ∨ k = g) l r) : Own e w O (.slice (some ⟨g, 0, none⟩) l.length cap) l := by
  have hl : r.flatten.length = l.length * Dat.n α := by rw [cells_len hr.len.2, hr.len.1]
  refine ⟨r.flatten, ⟨hl, .inr ⟨g, cap, _, rfl, Nat.zero_le _, hg, hle, hcm, by simpa using hs, ?_⟩⟩, ?_, ?_⟩
  · rw [← hl]; exact List.take_left
  · intro k hk
    injection hk with hk
    subst hk
    exact hO
  · intro i x hx
    exact Dat.keep (hr.get i x hx) (Chg.refl Never w) (fun _ _ h => h.elim) (fun k _ hk => hk.imp_right (fun e => by injection e with e; exact e.symm))
theorem chg_setRow (w : World) (g : Nat) (cs : Array Value) : Chg (fun k => k = g) w (w.setRow g cs) :=
  ⟨rfl, rfl, rfl, by simp [World.setRow], fun k _ hk => setRow_other w g k cs hk⟩
theorem row_cell {w : World} {g : Nat} {L : List Value} {e : TypeId} (h : w.heap[g]? = some (.cells L.toArray e (0, 0))) {j : Nat} {u : Value} (hu : L[j]? = some u) : w.cell? ⟨g, j, none⟩ = some u := by
  simp only [World.cell?, h]
  simpa using hu
/-! ### the builtins -/
theorem run_copy_at {P : Program} (w : World) {dT sT ty e : TypeId} {i : TypeInfo} (ht : P.underlying dT = some (.slice e)) (hi : P.info? e = some i) {g d dLen dCap : Nat} {a : Addr} {sLen sCap : Nat} {cs L : List Value}
    (hg : w.heap[g]? = some (.cells L.toArray e (0, 0))) (hn : cs.length = Nat.min sLen dLen * i.size) (hsrc : ∀ j u, cs[j]? = some u → w.cell? (a.add j) = some u) (hfit : d + cs.length ≤ L.length) (h1 : ∀ u ∈ cs, u.oneCell' = true) :
    (Builtin.copy_ #[dT, sT] ty #[.slice (some ⟨g, d, none⟩) dLen dCap, .slice (some a) sLen sCap]).run P w = .ok (goInt (Nat.min sLen dLen)) (w.setRow g (L.take d ++ cs ++ L.drop (d + cs.length)).toArray) := by
  have hf := run_firstCells_some (P := P) w i.size (Nat.min sLen dLen) a sLen sCap cs hn hsrc
  have hst := run_storeCells_at P g d e cs 0 L.toArray w hg (by simpa using hfit) h1
  simp only [Nat.add_zero] at hst
  simp [Builtin.copy_, run_underlying ht, Builtin.lenOf, sizeOf, typeInfo, hi, hf, hst]
theorem run_clear_at {P : Program} (w : World) {t ty e : TypeId} {z : Value} (ht : P.underlying t = some (.slice e)) (hz : ∀ w, (zeroValue e).run P w = .ok z w) {g d c : Nat} {L zs : List Value} (hzs : (Builtin.zeroCells z.cells 1).toList = zs)
    (hg : w.heap[g]? = some (.cells L.toArray e (0, 0))) (hfit : d + zs.length ≤ L.length) (h1 : ∀ u ∈ zs, u.oneCell' = true) :
    (Builtin.clear_ #[t] ty #[.slice (some ⟨g, d, none⟩) 1 c]).run P w = .ok (.tuple #[]) (w.setRow g (L.take d ++ zs ++ L.drop (d + zs.length)).toArray) := by
  have hst := run_storeCells_at P g d e zs 0 L.toArray w hg (by simpa using hfit) h1
  simp only [Nat.add_zero] at hst
  simp [Builtin.clear_, run_underlying ht, hz, hzs, hst]
theorem step_append_eq {P : Program} {ops : Array Oper} {o : Oper} {a : Act} {w : World} {K : Act → World → Prop} {Q : Exit → Act → World → Prop} {E : Prop} (hgd : o.guard = none) (s x : Operand) (t tn : TypeId)
    (ho : o.op = .call { callee := .builtin .append, args := #[s, x], argTypes := #[t, tn] }) (vs vx : Value) (hs : a.eval s = vs) (hx : a.eval x = vx) {v' : Value} {w' : World} (hr : (Builtin.append_ #[t, tn] o.type #[vs, vx]).run P w = .ok v' w') (h : K (a.put o.dst v') w') :
    if Region.wanted o (yielded ops a.tmps) = true then Oper.wp P o a w K Q else E := by
  have hw : Region.wanted o (yielded ops a.tmps) = true := by simp [Region.wanted, hgd]
  rw [if_pos hw]
  exact Lib.wp_append_run w s x t tn ho vs vx hs hx v' w' hr h
theorem wp_copy_eq {P : Program} (w : World) {o : Oper} {a : Act} {K : Act → World → Prop} {Q : Exit → Act → World → Prop} (d s : Operand) (t t' : TypeId)
    (ho : o.op = .call { callee := .builtin .copy, args := #[d, s], argTypes := #[t, t'] }) (v u : Value) (hd : a.eval d = v) (hs : a.eval s = u) {v' : Value} {w' : World}
    (hr : (Builtin.copy_ #[t, t'] o.type #[v, u]).run P w = .ok v' w') (h : K (a.put o.dst v') w') : o.wp P a w K Q := by
  unfold Oper.wp execOp
  simp only [ho, resolve, invoke, builtin, Sem.run_bind, Sem.run_pure, Result.andThen_ok, List.map_toArray, List.map_cons, List.map_nil, hd, hs, hr]
  exact h
theorem wpList_copy_eq {P : Program} (w : World) {ops : Array Oper} {rest : List Oper} {o : Oper} {a : Act} {Q : Exit → Act → World → Prop} (hgd : o.guard = none) (d s : Operand) (t t' : TypeId)
    (ho : o.op = .call { callee := .builtin .copy, args := #[d, s], argTypes := #[t, t'] }) (v u : Value) (hd : a.eval d = v) (hs : a.eval s = u) {v' : Value} {w' : World}
    (hr : (Builtin.copy_ #[t, t'] o.type #[v, u]).run P w = .ok v' w') (h : wpList P ops Q rest (a.put o.dst v') w') : wpList P ops Q (o :: rest) a w :=
  wpList_plain hgd fun _ hK => wp_copy_eq w d s t t' ho v u hd hs hr (hK _ _ h)
theorem step_copy_eq {P : Program} {ops : Array Oper} {o : Oper} {a : Act} {w : World} {K : Act → World → Prop} {Q : Exit → Act → World → Prop} {E : Prop} (hgd : o.guard = none) (d s : Operand) (t t' : TypeId)
    (ho : o.op = .call { callee := .builtin .copy, args := #[d, s], argTypes := #[t, t'] }) (v u : Value) (hd : a.eval d = v) (hs : a.eval s = u) {v' : Value} {w' : World} (hr : (Builtin.copy_ #[t, t'] o.type #[v, u]).run P w = .ok v' w') (h : K (a.put o.dst v') w') :
    if Region.wanted o (yielded ops a.tmps) = true then Oper.wp P o a w K Q else E := by
  have hw : Region.wanted o (yielded ops a.tmps) = true := by simp [Region.wanted, hgd]
  rw [if_pos hw]
  exact wp_copy_eq w d s t t' ho v u hd hs hr h
end Go.Proofs.YtjiaidchcldocaaGreatDoor
namespace Go.Proofs.YtjiaidchcldocaaGreatDoor
open Go.RowKit

theorem elemOk_file : ElemOk Tryz.prog 41 117 2 := elemOk_of Tryz.underlying41 (z := .agg #[.string ⟨#[]⟩, .slice none 0 0]) (b := 40) (by kernel_rfl) rfl (by decide)
theorem size_file (w : World) : (sizeOf (Tryz.prog.elem 41)).run Tryz.prog w = .ok 2 w := by kernel_rfl

end Go.Proofs.YtjiaidchcldocaaGreatDoor
