/-
  PARTS: ROWS OF A SLICE OF ITS OWN, element by element: what copy, clear, append do to one. No function of the program in sight.; THE WALK of slices.Delete of one file, in place.; THE WALK of slices.Insert of one file: at the end, in place, or in a new row.; THE WALKS of tree.Find (a binary search).; THE WALKS OF LAYER 4: slices.Clone, hunk.Copy.; A BOX OF TWO CELLS, and of three (Blk3: XTurn). No program in sight.; THE WALKS of tree.Copy, and of slices.Concat of files.; WHAT THE DOCUMENT'S WAY BETWEEN TWO TREES NEEDS, in plain Lean: places and lookups, the merged list's length, what Make answers of valid lines.
-/
import Derived.Test.YteocmmejfnmjcaaGreatDoorPackPi9
import Derived.Lib.AppendZerosOnto
import Derived.Deep.RegionHeld3
import Derived.Test.YteocmmejfnmjcaaGreatDoorPackPi5
import Derived.Lib.Overlaps
import Derived.Test.YteocmmejfnmjcaaGreatDoorPackPi2
import Derived.Test.YteocmmejfnmjcaaGreatDoorPackPi6
import Derived.Test.YteocmmejfnmjcaaGreatDoorPackPi4
namespace Go.Proofs.YteocmmejfnmjcaaGreatDoor
open Go.RowKit

/-! ### elements and their cells -/
def RdL {α : Type} [Dat α] (w : World) (O : Nat → Prop) : List α → List (List Value) → Prop
  | [], [] => True
  | x :: l, c :: r => Dat.rd w O c x ∧ RdL w O l r
  | _, _ => False
theorem RdL.len {α : Type} [Dat α] {w : World} {O : Nat → Prop} : ∀ {l : List α} {r : List (List Value)}, RdL w O l r → r.length = l.length ∧ ∀ c ∈ r, c.length = Dat.n α
  | [], [], _ => ⟨rfl, by simp⟩
  | x :: l, c :: r, h => by
    obtain ⟨h1, h2⟩ := RdL.len h.2
    refine ⟨by rw [List.length_cons, List.length_cons, h1], fun y hy => ?_⟩
    rcases List.mem_cons.1 hy with rfl | hy
    · exact Dat.len h.1
    · exact h2 y hy
  | [], _ :: _, h => h.elim
  | _ :: _, [], h => h.elim
theorem RdL.one {α : Type} [Dat α] {w : World} {O : Nat → Prop} : ∀ {l : List α} {r : List (List Value)}, RdL w O l r → ∀ c ∈ r, ∀ u ∈ c, u.oneCell' = true
  | [], [], _ => by simp
  | x :: l, c :: r, h => by
    intro y hy
    rcases List.mem_cons.1 hy with rfl | hy
    · exact Dat.one h.1
    · exact RdL.one h.2 y hy
  | [], _ :: _, h => h.elim
  | _ :: _, [], h => h.elim
theorem RdL.take {α : Type} [Dat α] {w : World} {O : Nat → Prop} : ∀ {l : List α} {r : List (List Value)} (k : Nat), RdL w O l r → RdL w O (l.take k) (r.take k)
  | _, _, 0, _ => trivial
  | [], [], _ + 1, _ => trivial
  | _ :: _, _ :: _, k + 1, h => ⟨h.1, RdL.take k h.2⟩
  | [], _ :: _, _ + 1, h => h.elim
  | _ :: _, [], _ + 1, h => h.elim
theorem RdL.drop {α : Type} [Dat α] {w : World} {O : Nat → Prop} : ∀ {l : List α} {r : List (List Value)} (k : Nat), RdL w O l r → RdL w O (l.drop k) (r.drop k)
  | _, _, 0, h => h
  | [], [], _ + 1, _ => trivial
  | _ :: _, _ :: _, k + 1, h => RdL.drop k h.2
  | [], _ :: _, _ + 1, h => h.elim
  | _ :: _, [], _ + 1, h => h.elim
theorem RdL.app {α : Type} [Dat α] {w : World} {O : Nat → Prop} : ∀ {l m : List α} {r s : List (List Value)}, RdL w O l r → RdL w O m s → RdL w O (l ++ m) (r ++ s)
  | [], _, [], _, _, g => g
  | _ :: _, _, _ :: _, _, h, g => ⟨h.1, RdL.app h.2 g⟩
  | [], _, _ :: _, _, h, _ => h.elim
  | _ :: _, _, [], _, h, _ => h.elim
theorem RdL.keep {α : Type} [Dat α] {w w' : World} {O O' O'' : Nat → Prop} (hc : Chg O' w w') (h1 : ∀ k, k < w.heap.size → O' k → O k) (h2 : ∀ k, k < w.heap.size → O'' k → O k) : ∀ {l : List α} {r : List (List Value)}, RdL w O l r → RdL w' O'' l r
  | [], [], _ => trivial
  | _ :: _, _ :: _, h => ⟨Dat.keep h.1 hc h1 h2, RdL.keep hc h1 h2 h.2⟩
  | [], _ :: _, h => h.elim
  | _ :: _, [], h => h.elim
theorem RdL.get {α : Type} [Dat α] {w : World} {O : Nat → Prop} : ∀ {l : List α} {r : List (List Value)}, RdL w O l r → ∀ (i : Nat) (x : α), l[i]? = some x → Dat.rd w O ((r.flatten.drop (i * Dat.n α)).take (Dat.n α)) x
  | [], [], _, i, x, hx => by simp at hx
  | y :: l, c :: r, h, 0, x, hx => by
    simp only [List.getElem?_cons_zero, Option.some.injEq] at hx
    subst hx
    have e : ((c :: r).flatten.drop (0 * Dat.n α)).take (Dat.n α) = c := by
      rw [Nat.zero_mul, List.drop_zero, List.flatten_cons, ← Dat.len h.1, List.take_left]
    rw [e]; exact h.1
  | y :: l, c :: r, h, i + 1, x, hx => by
    have := RdL.get h.2 i x (by simpa using hx)
    have e : (c :: r).flatten.drop ((i + 1) * Dat.n α) = r.flatten.drop (i * Dat.n α) := by
      rw [List.flatten_cons, Nat.succ_mul, Nat.add_comm, ← List.drop_drop, ← Dat.len h.1, List.drop_left]
    rw [e]; exact this
  | [], _ :: _, h, _, _, _ => h.elim
  | _ :: _, [], h, _, _, _ => h.elim
theorem rdl_of {α : Type} [Dat α] {w : World} {O : Nat → Prop} : ∀ (l : List α) (xs : List Value), xs.length = l.length * Dat.n α → (∀ (i : Nat) (x : α), l[i]? = some x → Dat.rd w O ((xs.drop (i * Dat.n α)).take (Dat.n α)) x) → ∃ r, RdL w O l r ∧ r.flatten = xs
  | [], xs, h, _ => ⟨[], trivial, by
    have : xs = [] := List.eq_nil_of_length_eq_zero (by rw [h]; simp)
    rw [this]; rfl⟩
  | x :: l, xs, h, g => by
    obtain ⟨r, h1, h2⟩ := rdl_of l (xs.drop (Dat.n α)) (by rw [List.length_drop, h, List.length_cons, Nat.succ_mul]; omega) (fun i y hy => by
      have := g (i + 1) y (by simpa using hy)
      rw [List.drop_drop]
      rwa [show Dat.n α + i * Dat.n α = (i + 1) * Dat.n α by rw [Nat.succ_mul, Nat.add_comm]])
    have := g 0 x rfl
    rw [Nat.zero_mul, List.drop_zero] at this
    exact ⟨xs.take (Dat.n α) :: r, ⟨this, h1⟩, by rw [List.flatten_cons, h2, List.take_append_drop]⟩
theorem cells_len {q : Nat} : ∀ {r : List (List Value)}, (∀ c ∈ r, c.length = q) → r.flatten.length = r.length * q
  | [], _ => by simp
  | c :: r, h => by
    rw [List.flatten_cons, List.length_append, cells_len (r := r) (fun x hx => h x (List.mem_cons_of_mem _ hx)), h c (List.mem_cons_self ..), List.length_cons, Nat.succ_mul, Nat.add_comm]
theorem cells_take {q : Nat} : ∀ (r : List (List Value)) (k : Nat), (∀ c ∈ r, c.length = q) → r.flatten.take (k * q) = (r.take k).flatten
  | _, 0, _ => by simp
  | [], _ + 1, _ => by simp
  | c :: r, k + 1, h => by
    have e := h c (List.mem_cons_self ..)
    rw [List.take_succ_cons, List.flatten_cons, List.flatten_cons, ← cells_take r k (fun x hx => h x (List.mem_cons_of_mem _ hx)), Nat.succ_mul, Nat.add_comm, ← e, List.take_length_add_append]
theorem cells_drop {q : Nat} : ∀ (r : List (List Value)) (k : Nat), (∀ c ∈ r, c.length = q) → r.flatten.drop (k * q) = (r.drop k).flatten
  | _, 0, _ => by simp
  | [], _ + 1, _ => by simp
  | c :: r, k + 1, h => by
    have e := h c (List.mem_cons_self ..)
    rw [List.drop_succ_cons, List.flatten_cons, ← cells_drop r k (fun x hx => h x (List.mem_cons_of_mem _ hx)), Nat.succ_mul, Nat.add_comm, ← List.drop_drop, ← e, List.drop_left]

/-! ### a row's own block -/
theorem own_rows {α : Type} [Dat α] {e : TypeId} {w : World} {O : Nat → Prop} {v : Value} {l : List α} (h : Own e w O v l) (hl : 0 < l.length) :
    ∃ (g cap : Nat) (r : List (List Value)) (tail : List Value), v = .slice (some ⟨g, 0, none⟩) l.length cap ∧ w.heap[g]? = some (.cells (r.flatten ++ tail).toArray e (0, 0)) ∧ (r.flatten ++ tail).length = cap * Dat.n α ∧ l.length ≤ cap ∧ cap ≤ maxLen ∧ ¬ O g ∧ RdL w (fun k => O k ∨ k = g) l r := by
  obtain ⟨xs, hx, hO, hr⟩ := h
  rcases hx.2 with ⟨_, h0⟩ | ⟨g, cap, cur, rfl, _, hg, hle, hcm, hcs, htk⟩
  · omega
  · have hr' : ∀ (i : Nat) (x : α), l[i]? = some x → Dat.rd w (fun k => O k ∨ k = g) ((xs.drop (i * Dat.n α)).take (Dat.n α)) x := fun i x hx => Dat.keep (hr i x hx) (Chg.refl Never w) (fun _ _ h => h.elim) (fun k _ hk => hk.imp_right (fun e => by rw [e]; rfl))
    obtain ⟨r, h1, h2⟩ := rdl_of l xs hx.1 hr'
    have e : r.flatten ++ cur.toList.drop (l.length * Dat.n α) = cur.toList := by rw [h2, ← htk, List.take_append_drop]
    refine ⟨g, cap, r, cur.toList.drop (l.length * Dat.n α), rfl, by rw [e]; exact hg, by rw [e]; simpa using hcs, hle, hcm, hO g rfl, h1⟩
theorem own_laid {α : Type} [Dat α] {e : TypeId} {w : World} {O : Nat → Prop} {l : List α} {g cap : Nat} {r : List (List Value)} {tail : List Value} (hg : w.heap[g]? = some (.cells (r.flatten ++ tail).toArray e (0, 0))) (hs : (r.flatten ++ tail).length = cap * Dat.n α) (hle : l.length ≤ cap) (hcm : cap ≤ maxLen) (hO : ¬ O g)
    (hr : RdL w (fun k => O k ∨ k = g) l r) : Own e w O (.slice (some ⟨g, 0, none⟩) l.length cap) l := by
  have hl : r.flatten.length = l.length * Dat.n α := by rw [cells_len hr.len.2, hr.len.1]
  refine ⟨r.flatten, ⟨hl, .inr ⟨g, cap, _, rfl, Nat.zero_le _, hg, hle, hcm, by simpa using hs, ?_⟩⟩, ?_, ?_⟩
  · rw [← hl]; exact List.take_left
  · intro k hk
    injection hk with hk
    subst hk
    exact hO
  · intro i x hx
    exact Dat.keep (hr.get i x hx) (Chg.refl Never w) (fun _ _ h => h.elim) (fun k _ hk => hk.imp_right (fun e => by injection e with e; exact e.symm))
theorem chg_setRow (w : World) (g : Nat) (cs : Array Value) : Chg (fun k => k = g) w (w.setRow g cs) :=
  ⟨rfl, rfl, rfl, by simp [World.setRow], fun k _ hk => setRow_other w g k cs hk⟩
theorem row_cell {w : World} {g : Nat} {L : List Value} {e : TypeId} (h : w.heap[g]? = some (.cells L.toArray e (0, 0))) {j : Nat} {u : Value} (hu : L[j]? = some u) : w.cell? ⟨g, j, none⟩ = some u := by
  simp only [World.cell?, h]
  simpa using hu
/-! ### the builtins -/
theorem run_copy_at {P : Program} (w : World) {dT sT ty e : TypeId} {i : TypeInfo} (ht : P.underlying dT = some (.slice e)) (hi : P.info? e = some i) {g d dLen dCap : Nat} {a : Addr} {sLen sCap : Nat} {cs L : List Value}
    (hg : w.heap[g]? = some (.cells L.toArray e (0, 0))) (hn : cs.length = Nat.min sLen dLen * i.size) (hsrc : ∀ j u, cs[j]? = some u → w.cell? (a.add j) = some u) (hfit : d + cs.length ≤ L.length) (h1 : ∀ u ∈ cs, u.oneCell' = true) :
    (Builtin.copy_ #[dT, sT] ty #[.slice (some ⟨g, d, none⟩) dLen dCap, .slice (some a) sLen sCap]).run P w = .ok (goInt (Nat.min sLen dLen)) (w.setRow g (L.take d ++ cs ++ L.drop (d + cs.length)).toArray) := by
  have hf := run_firstCells_some (P := P) w i.size (Nat.min sLen dLen) a sLen sCap cs hn hsrc
  have hst := run_storeCells_at P g d e cs 0 L.toArray w hg (by simpa using hfit) h1
  simp only [Nat.add_zero] at hst
  simp [Builtin.copy_, run_underlying ht, Builtin.lenOf, sizeOf, typeInfo, hi, hf, hst]
theorem run_clear_at {P : Program} (w : World) {t ty e : TypeId} {z : Value} (ht : P.underlying t = some (.slice e)) (hz : ∀ w, (zeroValue e).run P w = .ok z w) {g d c : Nat} {L zs : List Value} (hzs : (Builtin.zeroCells z.cells 1).toList = zs)
    (hg : w.heap[g]? = some (.cells L.toArray e (0, 0))) (hfit : d + zs.length ≤ L.length) (h1 : ∀ u ∈ zs, u.oneCell' = true) :
    (Builtin.clear_ #[t] ty #[.slice (some ⟨g, d, none⟩) 1 c]).run P w = .ok (.tuple #[]) (w.setRow g (L.take d ++ zs ++ L.drop (d + zs.length)).toArray) := by
  have hst := run_storeCells_at P g d e zs 0 L.toArray w hg (by simpa using hfit) h1
  simp only [Nat.add_zero] at hst
  simp [Builtin.clear_, run_underlying ht, hz, hzs, hst]
theorem step_append_eq {P : Program} {ops : Array Oper} {o : Oper} {a : Act} {w : World} {K : Act → World → Prop} {Q : Exit → Act → World → Prop} {E : Prop} (hgd : o.guard = none) (s x : Operand) (t tn : TypeId)
    (ho : o.op = .call { callee := .builtin .append, args := #[s, x], argTypes := #[t, tn] }) (vs vx : Value) (hs : a.eval s = vs) (hx : a.eval x = vx) {v' : Value} {w' : World} (hr : (Builtin.append_ #[t, tn] o.type #[vs, vx]).run P w = .ok v' w') (h : K (a.put o.dst v') w') :
    if Region.wanted o (yielded ops a.tmps) = true then Oper.wp P o a w K Q else E := by
  have hw : Region.wanted o (yielded ops a.tmps) = true := by simp [Region.wanted, hgd]
  rw [if_pos hw]
  exact Lib.wp_append_run w s x t tn ho vs vx hs hx v' w' hr h
theorem wp_copy_eq {P : Program} (w : World) {o : Oper} {a : Act} {K : Act → World → Prop} {Q : Exit → Act → World → Prop} (d s : Operand) (t t' : TypeId)
    (ho : o.op = .call { callee := .builtin .copy, args := #[d, s], argTypes := #[t, t'] }) (v u : Value) (hd : a.eval d = v) (hs : a.eval s = u) {v' : Value} {w' : World}
    (hr : (Builtin.copy_ #[t, t'] o.type #[v, u]).run P w = .ok v' w') (h : K (a.put o.dst v') w') : o.wp P a w K Q := by
  unfold Oper.wp execOp
  simp only [ho, resolve, invoke, builtin, Sem.run_bind, Sem.run_pure, Result.andThen_ok, List.map_toArray, List.map_cons, List.map_nil, hd, hs, hr]
  exact h
theorem wpList_copy_eq {P : Program} (w : World) {ops : Array Oper} {rest : List Oper} {o : Oper} {a : Act} {Q : Exit → Act → World → Prop} (hgd : o.guard = none) (d s : Operand) (t t' : TypeId)
    (ho : o.op = .call { callee := .builtin .copy, args := #[d, s], argTypes := #[t, t'] }) (v u : Value) (hd : a.eval d = v) (hs : a.eval s = u) {v' : Value} {w' : World}
    (hr : (Builtin.copy_ #[t, t'] o.type #[v, u]).run P w = .ok v' w') (h : wpList P ops Q rest (a.put o.dst v') w') : wpList P ops Q (o :: rest) a w :=
  wpList_plain hgd fun _ hK => wp_copy_eq w d s t t' ho v u hd hs hr (hK _ _ h)
theorem step_copy_eq {P : Program} {ops : Array Oper} {o : Oper} {a : Act} {w : World} {K : Act → World → Prop} {Q : Exit → Act → World → Prop} {E : Prop} (hgd : o.guard = none) (d s : Operand) (t t' : TypeId)
    (ho : o.op = .call { callee := .builtin .copy, args := #[d, s], argTypes := #[t, t'] }) (v u : Value) (hd : a.eval d = v) (hs : a.eval s = u) {v' : Value} {w' : World} (hr : (Builtin.copy_ #[t, t'] o.type #[v, u]).run P w = .ok v' w') (h : K (a.put o.dst v') w') :
    if Region.wanted o (yielded ops a.tmps) = true then Oper.wp P o a w K Q else E := by
  have hw : Region.wanted o (yielded ops a.tmps) = true := by simp [Region.wanted, hgd]
  rw [if_pos hw]
  exact wp_copy_eq w d s t t' ho v u hd hs hr h
end Go.Proofs.YteocmmejfnmjcaaGreatDoor
namespace Go.Proofs.YteocmmejfnmjcaaGreatDoor
open Go.RowKit

theorem info_file : ∃ i, Tryz.prog.info? 76 = some i ∧ i.size = 2 ∧ i.zero = some (.agg #[.string ⟨#[]⟩, .slice none 0 0]) ∧ i.bytes ≤ 128 := by
  obtain ⟨i, h1, h2, h3, h4⟩ := info_parts (P := Tryz.prog) (e := 76) (z := .agg #[.string ⟨#[]⟩, .slice none 0 0]) (size := 2) (bytes := 40) (by kernel_rfl)
  exact ⟨i, h1, h3, h2, by omega⟩
theorem zero_file : (Builtin.zeroCells (Value.agg #[.string ⟨#[]⟩, .slice none 0 0]).cells 1).toList = [.string ⟨#[]⟩, .slice none 0 0] := by
  simp [Builtin.zeroCells, Value.cells, Array.range, Array.ofFn]
  try rfl
theorem take_two {a b : List Value} {k : Nat} (h : a.length = k) : (a ++ b).take k = a := by subst h; exact List.take_left
theorem drop_two {a b : List Value} {k : Nat} (h : a.length = k) : (a ++ b).drop k = b := by subst h; exact List.drop_left
set_option maxHeartbeats 2000000 in
set_option maxRecDepth 100000 in
theorem delete_any (T : List File) (i : Nat) (v : Value) (w0 w : World) (hn : OwnN 76 w0 w v T) (hi : i < T.length) (hT : T.length ≤ 1000000) :
    Calls Tryz.prog 40 #[v, .int .i64 i, .int .i64 ((i : Int) + 1)] w fun e w' => ∃ r, e = .returned r ∧ OwnN 76 w0 w' r (dropAt T i) ∧ Chg (OwnB v) w w' ∧ (∀ k, r.ownBlock = some k → v.ownBlock = some k) := by
  obtain ⟨g, cap, r, tail, rfl, hg, hsz, hle, hcm, _, hr⟩ := own_rows hn.own (by omega)
  obtain ⟨hrl, hrq⟩ := hr.len
  have hrq : ∀ c ∈ r, c.length = 2 := hrq
  have hsz : (r.flatten ++ tail).length = cap * 2 := hsz
  obtain ⟨inf, hinf, hi2, _, _⟩ := info_file
  have hfl : r.flatten.length = T.length * 2 := by rw [cells_len hrq, hrl]
  have hnew : w0.heap.size ≤ g := hn.new g rfl
  have hgl : g < w.heap.size := (Array.getElem?_eq_some_iff.1 hg).1
  have hRow := Lib.hid hr
  unfold maxLen at hcm
  -- what moves to the left
  have hm1 : ((r.drop (i + 1)).flatten).length = (T.length - (i + 1)) * 2 := by rw [cells_len (fun c hc => hrq c (List.mem_of_mem_drop hc)), List.length_drop, hrl]
  obtain ⟨A, hA, hsrc⟩ : ∃ A : Addr, (if cap = i + 1 then some (⟨g, 0, none⟩ : Addr) else some ⟨g, (i + 1) * 2, none⟩) = some A ∧ Hid (∀ j u, ((r.drop (i + 1)).flatten)[j]? = some u → w.drew.cell? (A.add j) = some u) := by
    by_cases h : cap = i + 1
    · refine ⟨⟨g, 0, none⟩, by rw [if_pos h], fun j u hu => ?_⟩
      have h0 : (r.drop (i + 1)).flatten = [] := List.eq_nil_of_length_eq_zero (by rw [hm1]; omega)
      rw [h0] at hu
      simp at hu
    · refine ⟨⟨g, (i + 1) * 2, none⟩, by rw [if_neg h], fun j u hu => ?_⟩
      rw [Addr.add_lit]
      refine row_cell (w := w.drew) hg ?_
      rw [← cells_drop r (i + 1) hrq, List.getElem?_drop] at hu
      rw [List.getElem?_append_left (List.getElem?_eq_some_iff.1 hu).1]
      exact hu
  have hone : ∀ u ∈ (r.drop (i + 1)).flatten, u.oneCell' = true := fun u hu => by
    obtain ⟨c, hc, hu⟩ := List.mem_flatten.1 hu
    exact hr.one c (List.mem_of_mem_drop hc) u hu
  have hrun1 : ∀ ty, (Builtin.append_ #[22, 22] ty #[.slice (some ⟨g, 0, none⟩) i cap, .slice (some A) (T.length - (i + 1)) (cap - (i + 1))]).run Tryz.prog w.drew = _ := fun ty =>
    run_append_room (P := Tryz.prog) (ty := ty) w.drew 22 76 inf Tryz.underlying22 hinf g i cap (r.flatten ++ tail).toArray hg A (T.length - (i + 1)) (cap - (i + 1)) ((r.drop (i + 1)).flatten) (by rw [hm1, hi2]) hsrc.out hone (by omega) (by rw [hi2, hm1]; simp only [List.size_toArray]; omega)
  have hE1 : (r.flatten ++ tail).take (i * 2) = (r.take i).flatten := by
    rw [← cells_take r i hrq, List.take_append_of_le_length (by rw [hfl]; omega)]
  rw [hi2] at hrun1
  simp only [List.toList_toArray, hE1] at hrun1
  have hi1 : i + (T.length - (i + 1)) = T.length - 1 := by omega
  rw [hi1] at hrun1
  have hm2 : ((r.take i).flatten ++ (r.drop (i + 1)).flatten).length = (T.length - 1) * 2 := by
    rw [List.length_append, hm1, cells_len (fun c hc => hrq c (List.mem_of_mem_take hc)), List.length_take, hrl]; omega
  have hm3 : ((r.flatten ++ tail).drop (i * 2 + ((r.drop (i + 1)).flatten).length)).length = (cap - (T.length - 1)) * 2 := by
    rw [List.length_drop, hsz, hm1]; omega
  generalize (r.flatten ++ tail).drop (i * 2 + ((r.drop (i + 1)).flatten).length) = rest at hrun1 hm3
  have hg1 : (w.drew.setRow g ((r.take i).flatten ++ (r.drop (i + 1)).flatten ++ rest).toArray).heap[g]? = some (.cells ((r.take i).flatten ++ (r.drop (i + 1)).flatten ++ rest).toArray 76 (0, 0)) := setRow_heap w.drew g _ _ _ _ hg
  have hc1 := chg_setRow w.drew g ((r.take i).flatten ++ (r.drop (i + 1)).flatten ++ rest).toArray
  generalize w.drew.setRow g ((r.take i).flatten ++ (r.drop (i + 1)).flatten ++ rest).toArray = W1 at hrun1 hg1 hc1
  have hzv : ∀ w, (zeroValue 76).run Tryz.prog w = .ok (.agg #[.string ⟨#[]⟩, .slice none 0 0]) w := fun w => by kernel_rfl
  have hcl : ∀ ty c, (Builtin.clear_ #[22] ty #[.slice (some ⟨g, (T.length - 1) * 2, none⟩) 1 c]).run Tryz.prog W1 = _ := fun ty c =>
    run_clear_at (P := Tryz.prog) (ty := ty) (c := c) W1 Tryz.underlying22 hzv (zs := [.string ⟨#[]⟩, .slice none 0 0]) zero_file hg1 (by rw [List.length_append, hm2, hm3]; simp; omega) (by simp [Value.oneCell'])
  rw [take_two hm2] at hcl
  generalize hrest : List.drop ((T.length - 1) * 2 + [Value.string ⟨#[]⟩, Value.slice none 0 0].length) ((r.take i).flatten ++ (r.drop (i + 1)).flatten ++ rest) = rest2 at hcl
  have hm4 : rest2.length = (cap - T.length) * 2 := by
    rw [← hrest, List.length_drop, List.length_append, hm2, hm3]; simp; omega
  have hg2 : (W1.setRow g ((r.take i).flatten ++ (r.drop (i + 1)).flatten ++ [Value.string ⟨#[]⟩, Value.slice none 0 0] ++ rest2).toArray).heap[g]? = some (.cells ((r.take i).flatten ++ (r.drop (i + 1)).flatten ++ [Value.string ⟨#[]⟩, Value.slice none 0 0] ++ rest2).toArray 76 (0, 0)) := setRow_heap W1 g _ _ _ _ hg1
  have hc2 := chg_setRow W1 g ((r.take i).flatten ++ (r.drop (i + 1)).flatten ++ [Value.string ⟨#[]⟩, Value.slice none 0 0] ++ rest2).toArray
  generalize W1.setRow g ((r.take i).flatten ++ (r.drop (i + 1)).flatten ++ [Value.string ⟨#[]⟩, Value.slice none 0 0] ++ rest2).toArray = W2 at hcl hg2 hc2
  have hcc : Chg (fun k => k = g) w W2 := ((Chg.refl (fun k => k = g) w).drew.trans hc1).trans hc2
  have hfin : Hid (OwnN 76 w0 W2 (.slice (some ⟨g, 0, none⟩) (T.length - 1) cap) (dropAt T i) ∧ Chg (OwnB (.slice (some ⟨g, 0, none⟩) T.length cap)) w W2 ∧ (∀ k, (Value.slice (some ⟨g, 0, none⟩) (T.length - 1) cap).ownBlock = some k → (Value.slice (some ⟨g, 0, none⟩) T.length cap).ownBlock = some k)) := by
    have hdl : (dropAt T i).length = T.length - 1 := by unfold dropAt; rw [List.length_append, List.length_take, List.length_drop]; omega
    have hrr := ((hRow.out.take i).app (hRow.out.drop (i + 1))).keep (O'' := fun k => Never k ∨ k = g) hcc (fun k _ hk => .inr hk) (fun k _ hk => hk)
    have := own_laid (e := 76) (w := W2) (O := Never) (l := dropAt T i) (g := g) (cap := cap) (r := r.take i ++ r.drop (i + 1)) (tail := [Value.string ⟨#[]⟩, Value.slice none 0 0] ++ rest2) (by rw [List.flatten_append, ← List.append_assoc]; exact hg2)
      (by rw [List.flatten_append, List.length_append, hm2, List.length_append, hm4]; show _ = cap * 2; simp; omega) (by omega) (by unfold maxLen; omega) (fun h => h) hrr
    rw [hdl] at this
    exact ⟨⟨this, fun k hk => by injection hk with hk; subst hk; exact hnew, hn.chg.trans' hcc (fun k hk h => by omega)⟩, hcc.mono (fun k _ h => by rw [h]; rfl), fun k h => h⟩
  clear hg hsz hr hrq hfl hsrc hone hm1 hm2 hm3 hm4 hE1 hg1 hg2 hc1 hc2 hcc hrest hRow hinf hzv hn hrl
  have h1 : ((i : Int) == (i : Int) + 1) = false := beq_eq_false_iff_ne.2 (by omega)
  have h2 : (T.length - 1 : Nat) + 1 = T.length := by omega
  have h3 : T.length - (T.length - 1) = 1 := by omega
  have h4 : ¬ cap = T.length - 1 := by omega
  have h5 : ((i : Int) + 1).toNat = i + 1 := by omega
  have h6 : i ≤ cap := by omega
  have h7 : i + 1 ≤ cap := by omega
  have h8 : (i : Int) + 1 ≤ T.length := by omega
  have h9 : (0 : Int) ≤ (i : Int) + 1 := by omega
  go_enter Tryz.func40, Tryz.ntmps40
  go_wp2_with fail
  refine wp_region_held_drew (S := fun _ => True) (by kernel_rfl) trivial (fun hH => ?_)
  refine' wpAnyH_take (i := 0) ?hi0 (by kernel_rfl) (by kernel_rfl) (by kernel_rfl) ?hQ0 (Or.inl ⟨?hw0, ?hy0⟩) (by assumption) ?_
  case hi0 => (simp only [List.getElem?_toArray, List.getElem?_cons_succ, List.getElem?_cons_zero]; rfl)
  case hQ0 => exact fun _ _ _ h => h
  case hw0 => rfl
  case hy0 => (intro w' hSw; (try dsimp only at hSw); go_simp; all_goals with_reducible rfl)
  try simp only [Act.put, List.setIfInBounds_toArray, List.set_cons_zero, List.set_cons_succ]
  refine' wpAnyH_take (i := 1) ?hi1 (by kernel_rfl) (by kernel_rfl) (by kernel_rfl) ?hQ1 (Or.inl ⟨?hw1, ?hy1⟩) (by assumption) ?_
  case hi1 => (simp only [List.getElem?_toArray, List.getElem?_cons_succ, List.getElem?_cons_zero]; rfl)
  case hQ1 => exact fun _ _ _ h => h
  case hw1 => rfl
  case hy1 => (intro w' hSw; (try dsimp only at hSw); go_simp; all_goals with_reducible rfl)
  try simp only [Act.put, List.setIfInBounds_toArray, List.set_cons_zero, List.set_cons_succ]
  refine' wpAnyH_take (i := 2) ?hi2 (by kernel_rfl) (by kernel_rfl) (by kernel_rfl) ?hQ2 (Or.inl ⟨?hw2, ?hy2⟩) (by assumption) ?_
  case hi2 => (simp only [List.getElem?_toArray, List.getElem?_cons_succ, List.getElem?_cons_zero]; rfl)
  case hQ2 => exact fun _ _ _ h => h
  case hw2 => rfl
  case hy2 => (intro w' hSw; (try dsimp only at hSw); go_simp; all_goals with_reducible rfl)
  try simp only [Act.put, List.setIfInBounds_toArray, List.set_cons_zero, List.set_cons_succ]
  refine' wpAnyH_take (i := 3) ?hi3 (by kernel_rfl) (by kernel_rfl) (by kernel_rfl) ?hQ3 (Or.inl ⟨?hw3, ?hy3⟩) (by assumption) ?_
  case hi3 => (simp only [List.getElem?_toArray, List.getElem?_cons_succ, List.getElem?_cons_zero]; rfl)
  case hQ3 => exact fun _ _ _ h => h
  case hw3 => rfl
  case hy3 => (intro w' hSw; (try dsimp only at hSw); go_simp; all_goals with_reducible rfl)
  try simp only [Act.put, List.setIfInBounds_toArray, List.set_cons_zero, List.set_cons_succ]
  refine' wpAnyH_take (i := 4) ?hi4 (by kernel_rfl) (by kernel_rfl) (by kernel_rfl) ?hQ4 (Or.inl ⟨?hw4, ?hy4⟩) (by assumption) ?_
  case hi4 => (simp only [List.getElem?_toArray, List.getElem?_cons_succ, List.getElem?_cons_zero]; rfl)
  case hQ4 => exact fun _ _ _ h => h
  case hw4 => rfl
  case hy4 => (intro w' hSw; (try dsimp only at hSw); go_simp; all_goals with_reducible rfl)
  try simp only [Act.put, List.setIfInBounds_toArray, List.set_cons_zero, List.set_cons_succ]
  refine' wpAnyH_take (i := 5) ?hi5 (by kernel_rfl) (by kernel_rfl) (by kernel_rfl) ?hQ5 (Or.inl ⟨?hw5, ?hy5⟩) (by assumption) ?_
  case hi5 => (simp only [List.getElem?_toArray, List.getElem?_cons_succ, List.getElem?_cons_zero]; rfl)
  case hQ5 => exact fun _ _ _ h => h
  case hw5 => rfl
  case hy5 => (intro w' hSw; (try dsimp only at hSw); go_simp; all_goals with_reducible rfl)
  try simp only [Act.put, List.setIfInBounds_toArray, List.set_cons_zero, List.set_cons_succ]
  refine wpAnyH_ready (rs := [6]) (by kernel_rfl) (by simp) ?_
  refine AllReadyH.cons rfl (fun K hK => ?_) AllReadyH.nil
  refine step_append_eq (by rfl) _ _ 22 22 (by rfl) _ _ (by rfl) (by rfl) (hrun1 _) ?_
  refine hK.out _ _ trivial (fun _ => ?_)
  clear hK K
  try simp only [Act.put, List.setIfInBounds_toArray, List.set_cons_zero, List.set_cons_succ]
  refine' wpAnyH_take (i := 7) ?hi7 (by kernel_rfl) (by kernel_rfl) (by kernel_rfl) ?hQ7 (Or.inl ⟨?hw7, ?hy7⟩) (by assumption) ?_
  case hi7 => (simp only [List.getElem?_toArray, List.getElem?_cons_succ, List.getElem?_cons_zero]; rfl)
  case hQ7 => exact fun _ _ _ h => h
  case hw7 => rfl
  case hy7 => (intro w' hSw; (try dsimp only at hSw); go_simp; all_goals with_reducible rfl)
  try simp only [Act.put, List.setIfInBounds_toArray, List.set_cons_zero, List.set_cons_succ]
  refine wpAnyH_done (by kernel_rfl) ?_ _
  go_wp2_with fail
  go_ret
  exact ⟨_, rfl, hfin.out⟩
end Go.Proofs.YteocmmejfnmjcaaGreatDoor
namespace Go.Proofs.YteocmmejfnmjcaaGreatDoor
open Go.RowKit

theorem rdv_at {α : Type} [Dat α] {w : World} {O : Nat → Prop} {B : Nat} {E : TypeId} {cs : List Value} {x : α} (hB : w.heap[B]? = some (.cells cs.toArray E (0, 0))) (hO : ¬ O B) (hx : Dat.rd w O cs x) : Rdv w O (.slice (some ⟨B, 0, none⟩) 1 1) [x] := by
  refine ⟨some ⟨B, 0, none⟩, 1, rfl, Nat.le_refl _, by decide, ?_⟩
  intro i y hy
  obtain rfl : i = 0 := by
    cases i with
    | zero => rfl
    | succ i => simp at hy
  simp only [List.getElem?_cons_zero, Option.some.injEq] at hy
  subst hy
  refine ⟨B, 0, cs, rfl, hO, ?_, hx⟩
  intro j u hj
  simp only [World.cell?, hB]
  simpa using hj
def insAt (T : List File) (i : Nat) (f : File) : List File := T.take i ++ f :: T.drop i
set_option maxHeartbeats 2000000 in
set_option maxRecDepth 100000 in
theorem insert_end (T : List File) (f : File) (v fv : Value) (w0 w : World) (B : Nat) (E : TypeId) (hn : OwnN 76 w0 w v T) (hT : T.length ≤ 1000000)
    (hB : w.heap[B]? = some (.cells #[.string f.path, fv] E (0, 0))) (hvB : ∀ k, v.ownBlock = some k → k ≠ B) (hf : Dat.rd w (fun k => Never k ∨ v.ownBlock = some k) [.string f.path, fv] f) :
    Calls Tryz.prog 41 #[v, .int .i64 T.length, .slice (some ⟨B, 0, none⟩) 1 1] w fun e w' => ∃ r, e = .returned r ∧ OwnN 76 w0 w' r (T ++ [f]) := by
  obtain ⟨a, cap, rfl, h1, h2, _⟩ := rdv_slice hn.own.rdv
  unfold maxLen at h2
  obtain ⟨sb, u0, hrunL, u1, _⟩ := slice_gen (P := Tryz.prog) (t := 22) (by kernel_rfl) size_file (hn.own.rdv.sub (O' := Never) (fun _ _ h => h)) T.length T.length (Nat.le_refl _) (Nat.le_refl _)
  have hrunL := fun (wx : World) => hrunL (T.length : Int) wx rfl rfl
  clear u0 u1
  have hu : Rdv w (fun k => Never k ∨ (Value.slice a T.length cap).ownBlock = some k) (.slice (some ⟨B, 0, none⟩) 1 1) [f] := rdv_at hB (fun h => h.elim (fun h => h) (fun h => hvB _ h rfl)) hf
  have hle : T.length + [f].length ≤ 1000000000 := by simp; omega
  go_enter Tryz.func41, Tryz.ntmps41
  go_wp2_with (at_builtin; refine wpList_many2 (by rfl) _ _ 22 (by rfl) elemOk_file (O := Never) (l := T) (m := [f]) (by rfl) (by rfl) hn.own hu (fun _ h => h.elim) hle ?_; intro v1 w1 hw1 hd1 hk1; have hn1 := hn.step hw1 hd1 hk1)
  go_ret
  exact ⟨_, rfl, hn1⟩
theorem min_one {k : Nat} (h : 1 ≤ k) : Nat.min 1 k = 1 := Nat.min_eq_left h
theorem minR {a b : Nat} (h : b ≤ a) : Nat.min a b = b := Nat.min_eq_right h
set_option maxHeartbeats 4000000 in
set_option maxRecDepth 100000 in
theorem insert_room (T : List File) (i : Nat) (f : File) (v fv : Value) (w0 w : World) (B : Nat) (E : TypeId) (hn : OwnN 76 w0 w v T) (hi : i < T.length) (hT : T.length ≤ 1000000)
    (hB : w.heap[B]? = some (.cells #[.string f.path, fv] E (0, 0))) (hvB : ∀ k, v.ownBlock = some k → k ≠ B) (hf : Dat.rd w (fun k => Never k ∨ v.ownBlock = some k) [.string f.path, fv] f) :
    Calls Tryz.prog 41 #[v, .int .i64 i, .slice (some ⟨B, 0, none⟩) 1 1] w fun e w' => ∃ r, e = .returned r ∧ OwnN 76 w0 w' r (insAt T i f) := by
  obtain ⟨g, cap, r, tail, rfl, hg, hsz, hle, hcm, _, hr⟩ := own_rows hn.own (by omega)
  obtain ⟨hrl, hrq⟩ := hr.len
  have hrq : ∀ c ∈ r, c.length = 2 := hrq
  have hsz : (r.flatten ++ tail).length = cap * 2 := hsz
  obtain ⟨inf, hinf, hi2, hiz, hib⟩ := info_file
  have hfl : r.flatten.length = T.length * 2 := by rw [cells_len hrq, hrl]
  have hnew : w0.heap.size ≤ g := hn.new g rfl
  have hgl : g < w.heap.size := (Array.getElem?_eq_some_iff.1 hg).1
  have hBl : B < w.heap.size := (Array.getElem?_eq_some_iff.1 hB).1
  have hgB : g ≠ B := hvB g rfl
  have hRow := Lib.hid hr
  have hf' : Dat.rd w (fun k => Never k ∨ k = g) [.string f.path, fv] f := Dat.keep hf (Chg.refl Never w) (fun _ _ h => h.elim) (fun k _ hk => hk.imp_right (fun e => by rw [e]; rfl))
  unfold maxLen at hcm
  have hd1 : ((r.drop i).flatten).length = (T.length - i) * 2 := by rw [cells_len (fun c hc => hrq c (List.mem_of_mem_drop hc)), List.length_drop, hrl]
  have hone : ∀ u ∈ (r.drop i).flatten, u.oneCell' = true := fun u hu => by
    obtain ⟨c, hc, hu⟩ := List.mem_flatten.1 hu
    exact hr.one c (List.mem_of_mem_drop hc) u hu
  have hone2 : ∀ u ∈ [Value.string f.path, fv], u.oneCell' = true := Dat.one hf
  have hE1 : (r.flatten ++ tail).take (i * 2) = (r.take i).flatten := by
    rw [← cells_take r i hrq, List.take_append_of_le_length (by rw [hfl]; omega)]
  have ht1 : ((r.take i).flatten).length = i * 2 := by rw [cells_len (fun c hc => hrq c (List.mem_of_mem_take hc)), List.length_take, hrl]; omega
  have hsrc1 : ∀ (W : World), W.heap[g]? = w.heap[g]? → ∀ j u, ((r.drop i).flatten)[j]? = some u → W.cell? ((⟨g, i * 2, none⟩ : Addr).add j) = some u := fun W hW j u hu => by
    rw [Addr.add_lit]
    refine row_cell (w := W) (hW.trans hg) ?_
    rw [← cells_drop r i hrq, List.getElem?_drop] at hu
    rw [List.getElem?_append_left (List.getElem?_eq_some_iff.1 hu).1]
    exact hu
  have hsrc2 : ∀ (W : World), W.heap[B]? = w.heap[B]? → ∀ j u, [Value.string f.path, fv][j]? = some u → W.cell? ((⟨B, 0, none⟩ : Addr).add j) = some u := fun W hW j u hu => by
    rw [Addr.add_lit]
    exact row_cell (w := W) (L := [.string f.path, fv]) (hW.trans hB) (by rwa [Nat.zero_add])
  have h1 : ((i : Int) == (T.length : Int)) = false := beq_eq_false_iff_ne.2 (by omega)
  have h1' : ¬ ((i : Int) = (T.length : Int)) := by omega
  have h5 : ((i : Int) + 1).toNat = i + 1 := by omega
  have h6 : ((T.length : Int) + 1).toNat = T.length + 1 := by omega
  have h9 : (0 : Int) ≤ (i : Int) + 1 := by omega
  have h10 : (0 : Int) ≤ (T.length : Int) + 1 := by omega
  have h11 : (i : Int) + 1 ≤ (T.length : Int) + 1 := by omega
  have h12 : (i : Int) ≤ (T.length : Int) + 1 := by omega
  have h13 : (i : Int) ≤ (T.length : Int) := by omega
  have h14 : T.length + 1 - (i + 1) = T.length - i := by omega
  have h15 : i ≤ T.length := by omega
  have h16 : i ≤ T.length + 1 := by omega
  have h17 : i + 1 ≤ T.length + 1 := by omega
  have hw1 : IntKind.i64.wrap ((i : Int) + 1) = (i : Int) + 1 := by rw [IntKind.wrap_i64]; omega
  have hw2 : IntKind.i64.wrap ((T.length : Int) + 1) = (T.length : Int) + 1 := by rw [IntKind.wrap_i64]; omega
  have hw3 : IntKind.i64.wrap ((T.length : Int) + 1 - (i : Int)) = (T.length : Int) + 1 - (i : Int) := by rw [IntKind.wrap_i64]; omega
  have hm1 : Nat.min (T.length + 1 - i) (T.length - i) = T.length - i := minR (by omega)
  by_cases hroom : T.length + 1 ≤ cap
  · have hov : ∀ lb cb, (callFunc 68 #[.slice (some ⟨B, 0, none⟩) 1 1, .slice (some ⟨g, (i + 1) * 2, none⟩) lb cb]).run Tryz.prog w = .ok (.value (.bool false)) w := fun lb cb => by
      rw [run_callFunc_extern Tryz.func68 (by kernel_rfl) (by kernel_rfl) (by kernel_rfl) (e := Extern.SlicesOverlaps.overlaps #[22, 22] #[4]) (by kernel_rfl),
        Lib.run_overlaps_apart w 22 4 76 Tryz.underlying22 2 (fun w => by kernel_rfl) ⟨B, 0, none⟩ ⟨g, (i + 1) * 2, none⟩ 1 1 lb cb (fun e => hgB e.symm) E 76 2 (r.flatten ++ tail).toArray.size (by simp only [World.shape?, hB]; rfl) (by simp only [World.shape?, hg]) (by simp only [List.size_toArray]; omega) (by simp only [World.frozen?, hB]; rfl) (by simp only [World.frozen?, hB]; rfl)]
      rfl
    have hcp1 : ∀ ty dc sc, (Builtin.copy_ #[22, 22] ty #[.slice (some ⟨g, (i + 1) * 2, none⟩) (T.length - i) dc, .slice (some ⟨g, i * 2, none⟩) (T.length + 1 - i) sc]).run Tryz.prog w.drew = _ := fun ty dc sc =>
      run_copy_at (P := Tryz.prog) w.drew (ty := ty) (dCap := dc) (sCap := sc) (cs := (r.drop i).flatten) Tryz.underlying22 hinf (L := r.flatten ++ tail) hg (by rw [hd1, hi2, hm1]) (hsrc1 w.drew rfl) (by rw [hd1, hsz]; omega) hone
    have hE2 : ((r.flatten ++ tail).take ((i + 1) * 2)).length = i * 2 + 2 := by rw [List.length_take, hsz]; omega
    have hE3 : ((r.flatten ++ tail).take ((i + 1) * 2)).take (i * 2) = (r.take i).flatten := by rw [List.take_take, show min (i * 2) ((i + 1) * 2) = i * 2 by omega, hE1]
    have hE4 : ((r.flatten ++ tail).drop ((i + 1) * 2 + ((r.drop i).flatten).length)).length = (cap - (T.length + 1)) * 2 := by rw [List.length_drop, hsz, hd1]; omega
    generalize (r.flatten ++ tail).take ((i + 1) * 2) = P1 at hcp1 hE2 hE3
    generalize (r.flatten ++ tail).drop ((i + 1) * 2 + ((r.drop i).flatten).length) = rest at hcp1 hE4
    have hg1 : (w.drew.setRow g (P1 ++ (r.drop i).flatten ++ rest).toArray).heap[g]? = some (.cells (P1 ++ (r.drop i).flatten ++ rest).toArray 76 (0, 0)) := setRow_heap w.drew g _ _ _ _ hg
    have hB1 : (w.drew.setRow g (P1 ++ (r.drop i).flatten ++ rest).toArray).heap[B]? = w.heap[B]? := setRow_other w.drew g B _ (fun e => hgB e.symm)
    have hc1 := chg_setRow w.drew g (P1 ++ (r.drop i).flatten ++ rest).toArray
    generalize w.drew.setRow g (P1 ++ (r.drop i).flatten ++ rest).toArray = W1 at hcp1 hg1 hc1 hB1
    have hcp2 : ∀ (ty : TypeId) (dc : Nat), (Builtin.copy_ #[22, 22] ty #[.slice (some ⟨g, i * 2, none⟩) (T.length + 1 - i) dc, .slice (some ⟨B, 0, none⟩) 1 1]).run Tryz.prog W1 = _ := fun ty dc =>
      run_copy_at (P := Tryz.prog) W1 (ty := ty) (dCap := dc) (sCap := 1) (cs := [Value.string f.path, fv]) Tryz.underlying22 hinf hg1 (by rw [hi2, min_one (by omega)]; rfl) (hsrc2 W1 hB1) (by rw [List.length_append, List.length_append, hE2]; simp; omega) hone2
    have hL1 : (P1 ++ (r.drop i).flatten ++ rest).take (i * 2) = (r.take i).flatten := by rw [List.append_assoc, List.take_append_of_le_length (by omega), hE3]
    have hL2 : (P1 ++ (r.drop i).flatten ++ rest).drop (i * 2 + [Value.string f.path, fv].length) = (r.drop i).flatten ++ rest := by rw [List.append_assoc]; exact drop_two hE2
    rw [hL1, hL2] at hcp2
    have hg2 : (W1.setRow g ((r.take i).flatten ++ [Value.string f.path, fv] ++ ((r.drop i).flatten ++ rest)).toArray).heap[g]? = some (.cells ((r.take i).flatten ++ [Value.string f.path, fv] ++ ((r.drop i).flatten ++ rest)).toArray 76 (0, 0)) := setRow_heap W1 g _ _ _ _ hg1
    have hc2 := chg_setRow W1 g ((r.take i).flatten ++ [Value.string f.path, fv] ++ ((r.drop i).flatten ++ rest)).toArray
    generalize W1.setRow g ((r.take i).flatten ++ [Value.string f.path, fv] ++ ((r.drop i).flatten ++ rest)).toArray = W2 at hcp2 hg2 hc2
    have hcc : Chg (fun k => k = g) w W2 := ((Chg.refl (fun k => k = g) w).drew.trans hc1).trans hc2
    have hfin : Hid (OwnN 76 w0 W2 (.slice (some ⟨g, 0, none⟩) (T.length + 1) cap) (insAt T i f)) := by
      have hdl : (insAt T i f).length = T.length + 1 := by unfold insAt; rw [List.length_append, List.length_take, List.length_cons, List.length_drop]; omega
      have hrr := ((hRow.out.take i).app (show RdL w (fun k => Never k ∨ k = g) (f :: T.drop i) ([Value.string f.path, fv] :: r.drop i) from ⟨hf', hRow.out.drop i⟩)).keep (O'' := fun k => Never k ∨ k = g) hcc (fun k _ hk => .inr hk) (fun k _ hk => hk)
      have := own_laid (e := 76) (w := W2) (O := Never) (l := insAt T i f) (g := g) (cap := cap) (r := r.take i ++ [Value.string f.path, fv] :: r.drop i) (tail := rest) (by rw [List.flatten_append, List.flatten_cons]; simp only [List.append_assoc] at hg2 ⊢; exact hg2)
        (by rw [List.flatten_append, List.flatten_cons, List.length_append, List.length_append, List.length_append, ht1, hd1, hE4]; show _ = cap * 2; simp; omega) (by omega) (by unfold maxLen; omega) (fun h => h) hrr
      rw [hdl] at this
      exact ⟨this, fun k hk => by injection hk with hk; subst hk; exact hnew, hn.chg.trans' hcc (fun k hk h => by omega)⟩
    have h18 : ¬ cap = i := by omega
    have h19 : ¬ cap = i + 1 := by omega
    have h20 : (T.length : Int) + 1 ≤ cap := by omega
    have h21 : ¬ (cap : Int) < (T.length : Int) + 1 := by omega
    clear hg hsz hr hrq hfl hsrc1 hsrc2 hone hone2 hd1 hE1 hE2 hE3 hE4 hg1 hg2 hc1 hc2 hcc hRow hinf hn hrl ht1 hf hf' hB hB1 hvB hL1 hL2
    go_enter Tryz.func41, Tryz.ntmps41
    go_wp2_with (simp only [hov])
    refine wp_region_held_drew (S := fun _ => True) (by kernel_rfl) trivial (fun hH => ?_)
    refine' wpAnyH_take (i := 0) ?hi0 (by kernel_rfl) (by kernel_rfl) (by kernel_rfl) ?hQ0 (Or.inl ⟨?hw0, ?hy0⟩) (by assumption) ?_
    case hi0 => (simp only [List.getElem?_toArray, List.getElem?_cons_succ, List.getElem?_cons_zero]; rfl)
    case hQ0 => exact fun _ _ _ h => h
    case hw0 => rfl
    case hy0 => (intro w' hSw; (try dsimp only at hSw); go_simp; all_goals with_reducible rfl)
    try simp only [Act.put, List.setIfInBounds_toArray, List.set_cons_zero, List.set_cons_succ]
    refine' wpAnyH_take (i := 1) ?hi1 (by kernel_rfl) (by kernel_rfl) (by kernel_rfl) ?hQ1 (Or.inl ⟨?hw1, ?hy1⟩) (by assumption) ?_
    case hi1 => (simp only [List.getElem?_toArray, List.getElem?_cons_succ, List.getElem?_cons_zero]; rfl)
    case hQ1 => exact fun _ _ _ h => h
    case hw1 => rfl
    case hy1 => (intro w' hSw; (try dsimp only at hSw); go_simp; all_goals with_reducible rfl)
    try simp only [Act.put, List.setIfInBounds_toArray, List.set_cons_zero, List.set_cons_succ]
    refine' wpAnyH_take (i := 2) ?hi2 (by kernel_rfl) (by kernel_rfl) (by kernel_rfl) ?hQ2 (Or.inl ⟨?hw2, ?hy2⟩) (by assumption) ?_
    case hi2 => (simp only [List.getElem?_toArray, List.getElem?_cons_succ, List.getElem?_cons_zero]; rfl)
    case hQ2 => exact fun _ _ _ h => h
    case hw2 => rfl
    case hy2 => (intro w' hSw; (try dsimp only at hSw); go_simp; all_goals with_reducible rfl)
    try simp only [Act.put, List.setIfInBounds_toArray, List.set_cons_zero, List.set_cons_succ]
    refine' wpAnyH_take (i := 3) ?hi3 (by kernel_rfl) (by kernel_rfl) (by kernel_rfl) ?hQ3 (Or.inl ⟨?hw3, ?hy3⟩) (by assumption) ?_
    case hi3 => (simp only [List.getElem?_toArray, List.getElem?_cons_succ, List.getElem?_cons_zero]; rfl)
    case hQ3 => exact fun _ _ _ h => h
    case hw3 => rfl
    case hy3 => (intro w' hSw; (try dsimp only at hSw); go_simp; all_goals with_reducible rfl)
    try simp only [Act.put, List.setIfInBounds_toArray, List.set_cons_zero, List.set_cons_succ]
    refine' wpAnyH_take (i := 4) ?hi4 (by kernel_rfl) (by kernel_rfl) (by kernel_rfl) ?hQ4 (Or.inl ⟨?hw4, ?hy4⟩) (by assumption) ?_
    case hi4 => (simp only [List.getElem?_toArray, List.getElem?_cons_succ, List.getElem?_cons_zero]; rfl)
    case hQ4 => exact fun _ _ _ h => h
    case hw4 => rfl
    case hy4 => (intro w' hSw; (try dsimp only at hSw); go_simp; all_goals with_reducible rfl)
    try simp only [Act.put, List.setIfInBounds_toArray, List.set_cons_zero, List.set_cons_succ]
    refine' wpAnyH_take (i := 5) ?hi5 (by kernel_rfl) (by kernel_rfl) (by kernel_rfl) ?hQ5 (Or.inl ⟨?hw5, ?hy5⟩) (by assumption) ?_
    case hi5 => (simp only [List.getElem?_toArray, List.getElem?_cons_succ, List.getElem?_cons_zero]; rfl)
    case hQ5 => exact fun _ _ _ h => h
    case hw5 => rfl
    case hy5 => (intro w' hSw; (try dsimp only at hSw); go_simp; all_goals with_reducible rfl)
    try simp only [Act.put, List.setIfInBounds_toArray, List.set_cons_zero, List.set_cons_succ]
    refine' wpAnyH_take (i := 6) ?hi6 (by kernel_rfl) (by kernel_rfl) (by kernel_rfl) ?hQ6 (Or.inl ⟨?hw6, ?hy6⟩) (by assumption) ?_
    case hi6 => (simp only [List.getElem?_toArray, List.getElem?_cons_succ, List.getElem?_cons_zero]; rfl)
    case hQ6 => exact fun _ _ _ h => h
    case hw6 => rfl
    case hy6 => (intro w' hSw; (try dsimp only at hSw); go_simp; all_goals with_reducible rfl)
    try simp only [Act.put, List.setIfInBounds_toArray, List.set_cons_zero, List.set_cons_succ]
    refine' wpAnyH_take (i := 7) ?hi7 (by kernel_rfl) (by kernel_rfl) (by kernel_rfl) ?hQ7 (Or.inl ⟨?hw7, ?hy7⟩) (by assumption) ?_
    case hi7 => (simp only [List.getElem?_toArray, List.getElem?_cons_succ, List.getElem?_cons_zero]; rfl)
    case hQ7 => exact fun _ _ _ h => h
    case hw7 => rfl
    case hy7 => (intro w' hSw; (try dsimp only at hSw); go_simp; all_goals with_reducible rfl)
    try simp only [Act.put, List.setIfInBounds_toArray, List.set_cons_zero, List.set_cons_succ]
    refine wpAnyH_ready (rs := [8]) (by kernel_rfl) (by simp) ?_
    refine AllReadyH.cons rfl (fun K hK => ?_) AllReadyH.nil
    refine step_copy_eq (by rfl) _ _ 22 22 (by rfl) _ _ (by rfl) (by rfl) (hcp1 _ _ _) ?_
    refine hK.out _ _ trivial (fun _ => ?_)
    clear hK K
    try simp only [Act.put, List.setIfInBounds_toArray, List.set_cons_zero, List.set_cons_succ]
    refine wpAnyH_done (by kernel_rfl) ?_ _
    go_wp2_with (at_builtin; refine wpList_copy_eq _ (by rfl) _ _ 22 22 (by rfl) _ _ (by rfl) (by rfl) (hcp2 _ _) ?_)
    go_ret
    exact ⟨_, rfl, hfin.out⟩
  · obtain rfl : cap = T.length := by omega
    have hold : (Builtin.firstCells inf.size i (.slice (some ⟨g, 0, none⟩) i T.length)).run Tryz.prog w.drew = .ok ((r.take i).flatten).toArray w.drew :=
      run_firstCells_some w.drew inf.size i ⟨g, 0, none⟩ i T.length ((r.take i).flatten) (by rw [ht1, hi2]) (fun j u hu => by
        rw [Addr.add_lit]
        refine row_cell (w := w.drew) hg ?_
        rw [← hE1, List.getElem?_take] at hu
        split at hu
        · rw [Nat.zero_add]; exact hu
        · cases hu)
    have hik : i + (T.length + 1 - i) = T.length + 1 := by omega
    have hkk : (T.length : Int) + 1 - (i : Int) = ((T.length + 1 - i : Nat) : Int) := by omega
    have hrz := fun ty => Lib.run_append_grow_zeros (P := Tryz.prog) w 22 3 ty 76 inf (.agg #[.string ⟨#[]⟩, .slice none 0 0]) .i64 .i64 Tryz.underlying22 Tryz.underlying3 hinf hiz (some ⟨g, 0, none⟩) i T.length _ hold (T.length + 1 - i) (by omega) (by omega) (by omega) (by omega)
        (by have := Nat.mul_le_mul (show T.length + 1 - i ≤ 1000001 by omega) hib; omega) (growslice_fits (by omega) (by rw [hik]; have := Nat.mul_le_mul (show T.length + 1 ≤ 1000001 by omega) hib; omega))
    rw [← hkk] at hrz
    rw [hik] at hrz
    have hGn : T.length + 1 ≤ grownCap w (T.length + 1) T.length 76 := grownCap_ge w _ _ _
    have hGm : grownCap w (T.length + 1) T.length 76 ≤ maxLen := grownCap_le_maxLen w _ _ _ (by unfold maxLen; omega)
    generalize grownCap w (T.length + 1) T.length 76 = Gc at hrz hGn hGm
    have hz1 := size_zeroCells (Value.agg #[.string ⟨#[]⟩, .slice none 0 0]).cells (T.length + 1 - i)
    have hz2 := size_zeroCells (Value.agg #[.string ⟨#[]⟩, .slice none 0 0]).cells (Gc - (T.length + 1))
    have hz3 : (Value.agg #[.string ⟨#[]⟩, .slice none 0 0]).cells.size = 2 := rfl
    rw [hz3] at hz1 hz2
    generalize Builtin.zeroCells (Value.agg #[.string ⟨#[]⟩, .slice none 0 0]).cells (T.length + 1 - i) = Z1 at hrz hz1
    generalize Builtin.zeroCells (Value.agg #[.string ⟨#[]⟩, .slice none 0 0]).cells (Gc - (T.length + 1)) = Z2 at hrz hz2
    have hA : ((r.take i).flatten).toArray ++ Z1 ++ Z2 = ((r.take i).flatten ++ (Z1.toList ++ Z2.toList)).toArray := by simp
    rw [hA] at hrz
    have hZl : (Z1.toList ++ Z2.toList).length = (Gc - i) * 2 := by rw [List.length_append, Array.length_toList, Array.length_toList, hz1, hz2]; omega
    generalize Z1.toList ++ Z2.toList = ZL at hrz hZl
    generalize hG0 : w.heap.size = G0 at hrz
    have hg0 : (w.drew.alloc (.cells ((r.take i).flatten ++ ZL).toArray 76)).heap[G0]? = some (.cells ((r.take i).flatten ++ ZL).toArray 76 (0, 0)) := by rw [← hG0]; exact heap_alloc_new w.drew _
    have hc0 : Chg Never w (w.drew.alloc (.cells ((r.take i).flatten ++ ZL).toArray 76)) := (Chg.refl Never w).drew.alloc _
    generalize w.drew.alloc (.cells ((r.take i).flatten ++ ZL).toArray 76) = W1 at hrz hg0 hc0
    have hcp1 : ∀ (ty : TypeId) (dc : Nat), (Builtin.copy_ #[22, 22] ty #[.slice (some ⟨G0, i * 2, none⟩) (T.length + 1 - i) dc, .slice (some ⟨B, 0, none⟩) 1 1]).run Tryz.prog W1 = _ := fun ty dc =>
      run_copy_at (P := Tryz.prog) W1 (ty := ty) (dCap := dc) (sCap := 1) (cs := [Value.string f.path, fv]) Tryz.underlying22 hinf hg0 (by rw [hi2, min_one (by omega)]; rfl) (hsrc2 W1 (hc0.block B hBl (fun h => h))) (by rw [List.length_append, ht1, hZl]; simp; omega) hone2
    have hL1 : ((r.take i).flatten ++ ZL).take (i * 2) = (r.take i).flatten := take_two ht1
    have hL2 : (((r.take i).flatten ++ ZL).drop (i * 2 + [Value.string f.path, fv].length)).length = (Gc - (i + 1)) * 2 := by rw [List.length_drop, List.length_append, ht1, hZl]; simp; omega
    rw [hL1] at hcp1
    generalize ((r.take i).flatten ++ ZL).drop (i * 2 + [Value.string f.path, fv].length) = R1 at hcp1 hL2
    have hg1 : (W1.setRow G0 ((r.take i).flatten ++ [Value.string f.path, fv] ++ R1).toArray).heap[G0]? = some (.cells ((r.take i).flatten ++ [Value.string f.path, fv] ++ R1).toArray 76 (0, 0)) := setRow_heap W1 G0 _ _ _ _ hg0
    have hc1 := chg_setRow W1 G0 ((r.take i).flatten ++ [Value.string f.path, fv] ++ R1).toArray
    have hgg1 : (W1.setRow G0 ((r.take i).flatten ++ [Value.string f.path, fv] ++ R1).toArray).heap[g]? = w.heap[g]? := (setRow_other W1 G0 g _ (by omega)).trans (hc0.block g hgl (fun h => h))
    generalize W1.setRow G0 ((r.take i).flatten ++ [Value.string f.path, fv] ++ R1).toArray = W2 at hcp1 hg1 hc1 hgg1
    have hcp2 : ∀ ty dc sc, (Builtin.copy_ #[22, 22] ty #[.slice (some ⟨G0, (i + 1) * 2, none⟩) (T.length - i) dc, .slice (some ⟨g, i * 2, none⟩) (T.length - i) sc]).run Tryz.prog W2.drew = _ := fun ty dc sc =>
      run_copy_at (P := Tryz.prog) W2.drew (ty := ty) (dCap := dc) (sCap := sc) (cs := (r.drop i).flatten) Tryz.underlying22 hinf (L := (r.take i).flatten ++ [Value.string f.path, fv] ++ R1) hg1 (by rw [hd1, hi2, minR (by omega)]) (hsrc1 W2.drew hgg1) (by rw [hd1, List.length_append, List.length_append, ht1, hL2]; simp; omega) hone
    have hL3 : ((r.take i).flatten ++ [Value.string f.path, fv]).length = (i + 1) * 2 := by rw [List.length_append, ht1]; simp; omega
    have hL4 : ((r.take i).flatten ++ [Value.string f.path, fv] ++ R1).take ((i + 1) * 2) = (r.take i).flatten ++ [Value.string f.path, fv] := take_two hL3
    have hL5 : (((r.take i).flatten ++ [Value.string f.path, fv] ++ R1).drop ((i + 1) * 2 + ((r.drop i).flatten).length)).length = (Gc - (T.length + 1)) * 2 := by rw [List.length_drop, List.length_append, hL3, hL2, hd1]; omega
    rw [hL4] at hcp2
    generalize ((r.take i).flatten ++ [Value.string f.path, fv] ++ R1).drop ((i + 1) * 2 + ((r.drop i).flatten).length) = rest at hcp2 hL5
    have hg2 : (W2.drew.setRow G0 ((r.take i).flatten ++ [Value.string f.path, fv] ++ (r.drop i).flatten ++ rest).toArray).heap[G0]? = some (.cells ((r.take i).flatten ++ [Value.string f.path, fv] ++ (r.drop i).flatten ++ rest).toArray 76 (0, 0)) := setRow_heap W2.drew G0 _ _ _ _ hg1
    have hc2 := chg_setRow W2.drew G0 ((r.take i).flatten ++ [Value.string f.path, fv] ++ (r.drop i).flatten ++ rest).toArray
    generalize W2.drew.setRow G0 ((r.take i).flatten ++ [Value.string f.path, fv] ++ (r.drop i).flatten ++ rest).toArray = W3 at hcp2 hg2 hc2
    have hcc : Chg (fun k => k = G0) w W3 := (((hc0.mono (fun _ _ h => h.elim)).trans hc1).drew).trans hc2
    have hfin : Hid (OwnN 76 w0 W3 (.slice (some ⟨G0, 0, none⟩) (T.length + 1) Gc) (insAt T i f)) := by
      have hdl : (insAt T i f).length = T.length + 1 := by unfold insAt; rw [List.length_append, List.length_take, List.length_cons, List.length_drop]; omega
      have hrr := ((hRow.out.take i).app (show RdL w (fun k => Never k ∨ k = g) (f :: T.drop i) ([Value.string f.path, fv] :: r.drop i) from ⟨hf', hRow.out.drop i⟩)).keep (O'' := fun k => Never k ∨ k = G0) hcc (fun k hk h => by omega) (fun k hk h => h.elim (fun h => h.elim) (fun h => by omega))
      have := own_laid (e := 76) (w := W3) (O := Never) (l := insAt T i f) (g := G0) (cap := Gc) (r := r.take i ++ [Value.string f.path, fv] :: r.drop i) (tail := rest) (by rw [List.flatten_append, List.flatten_cons]; simp only [List.append_assoc] at hg2 ⊢; exact hg2)
        (by rw [List.flatten_append, List.flatten_cons, List.length_append, List.length_append, List.length_append, ht1, hd1, hL5]; show _ = Gc * 2; simp; omega) (by omega) hGm (fun h => h) hrr
      rw [hdl] at this
      have hws := hn.chg.size
      exact ⟨this, fun k hk => by injection hk with hk; subst hk; show w0.heap.size ≤ G0; omega, hn.chg.trans' hcc (fun k hk h => by omega)⟩
    have h18 : ¬ Gc = i := by omega
    have h19 : ¬ Gc = i + 1 := by omega
    have h22 : ¬ T.length = i := by omega
    have h20 : (T.length : Int) < (T.length : Int) + 1 := by omega
    clear hg hsz hr hrq hfl hsrc1 hsrc2 hone hone2 hd1 hE1 hg0 hg1 hg2 hc0 hc1 hc2 hcc hRow hinf hn hrl ht1 hf hf' hB hvB hL1 hL2 hL3 hL4 hL5 hold hA hgg1 hG0 hkk
    go_enter Tryz.func41, Tryz.ntmps41
    go_wp2_with (first
      | (at_builtin; refine Lib.wpList_append_run _ (by rfl) _ _ _ _ (by rfl) _ _ (by rfl) (by rfl) _ _ (hrz _) ?_)
      | (at_builtin; refine wpList_copy_eq _ (by rfl) _ _ 22 22 (by rfl) _ _ (by rfl) (by rfl) (hcp1 _ _) ?_))
    refine wp_region_held_drew (S := fun _ => True) (by kernel_rfl) trivial (fun hH => ?_)
    refine' wpAnyH_take (i := 0) ?hi0 (by kernel_rfl) (by kernel_rfl) (by kernel_rfl) ?hQ0 (Or.inl ⟨?hw0, ?hy0⟩) (by assumption) ?_
    case hi0 => (simp only [List.getElem?_toArray, List.getElem?_cons_succ, List.getElem?_cons_zero]; rfl)
    case hQ0 => exact fun _ _ _ h => h
    case hw0 => rfl
    case hy0 => (intro w' hSw; (try dsimp only at hSw); go_simp; all_goals with_reducible rfl)
    try simp only [Act.put, List.setIfInBounds_toArray, List.set_cons_zero, List.set_cons_succ]
    refine' wpAnyH_take (i := 1) ?hi1 (by kernel_rfl) (by kernel_rfl) (by kernel_rfl) ?hQ1 (Or.inl ⟨?hw1, ?hy1⟩) (by assumption) ?_
    case hi1 => (simp only [List.getElem?_toArray, List.getElem?_cons_succ, List.getElem?_cons_zero]; rfl)
    case hQ1 => exact fun _ _ _ h => h
    case hw1 => rfl
    case hy1 => (intro w' hSw; (try dsimp only at hSw); go_simp; all_goals with_reducible rfl)
    try simp only [Act.put, List.setIfInBounds_toArray, List.set_cons_zero, List.set_cons_succ]
    refine' wpAnyH_take (i := 2) ?hi2 (by kernel_rfl) (by kernel_rfl) (by kernel_rfl) ?hQ2 (Or.inl ⟨?hw2, ?hy2⟩) (by assumption) ?_
    case hi2 => (simp only [List.getElem?_toArray, List.getElem?_cons_succ, List.getElem?_cons_zero]; rfl)
    case hQ2 => exact fun _ _ _ h => h
    case hw2 => rfl
    case hy2 => (intro w' hSw; (try dsimp only at hSw); go_simp; all_goals with_reducible rfl)
    try simp only [Act.put, List.setIfInBounds_toArray, List.set_cons_zero, List.set_cons_succ]
    refine' wpAnyH_take (i := 3) ?hi3 (by kernel_rfl) (by kernel_rfl) (by kernel_rfl) ?hQ3 (Or.inl ⟨?hw3, ?hy3⟩) (by assumption) ?_
    case hi3 => (simp only [List.getElem?_toArray, List.getElem?_cons_succ, List.getElem?_cons_zero]; rfl)
    case hQ3 => exact fun _ _ _ h => h
    case hw3 => rfl
    case hy3 => (intro w' hSw; (try dsimp only at hSw); go_simp; all_goals with_reducible rfl)
    try simp only [Act.put, List.setIfInBounds_toArray, List.set_cons_zero, List.set_cons_succ]
    refine' wpAnyH_take (i := 4) ?hi4 (by kernel_rfl) (by kernel_rfl) (by kernel_rfl) ?hQ4 (Or.inl ⟨?hw4, ?hy4⟩) (by assumption) ?_
    case hi4 => (simp only [List.getElem?_toArray, List.getElem?_cons_succ, List.getElem?_cons_zero]; rfl)
    case hQ4 => exact fun _ _ _ h => h
    case hw4 => rfl
    case hy4 => (intro w' hSw; (try dsimp only at hSw); go_simp; all_goals with_reducible rfl)
    try simp only [Act.put, List.setIfInBounds_toArray, List.set_cons_zero, List.set_cons_succ]
    refine' wpAnyH_take (i := 5) ?hi5 (by kernel_rfl) (by kernel_rfl) (by kernel_rfl) ?hQ5 (Or.inl ⟨?hw5, ?hy5⟩) (by assumption) ?_
    case hi5 => (simp only [List.getElem?_toArray, List.getElem?_cons_succ, List.getElem?_cons_zero]; rfl)
    case hQ5 => exact fun _ _ _ h => h
    case hw5 => rfl
    case hy5 => (intro w' hSw; (try dsimp only at hSw); go_simp; all_goals with_reducible rfl)
    try simp only [Act.put, List.setIfInBounds_toArray, List.set_cons_zero, List.set_cons_succ]
    refine' wpAnyH_take (i := 6) ?hi6 (by kernel_rfl) (by kernel_rfl) (by kernel_rfl) ?hQ6 (Or.inl ⟨?hw6, ?hy6⟩) (by assumption) ?_
    case hi6 => (simp only [List.getElem?_toArray, List.getElem?_cons_succ, List.getElem?_cons_zero]; rfl)
    case hQ6 => exact fun _ _ _ h => h
    case hw6 => rfl
    case hy6 => (intro w' hSw; (try dsimp only at hSw); go_simp; all_goals with_reducible rfl)
    try simp only [Act.put, List.setIfInBounds_toArray, List.set_cons_zero, List.set_cons_succ]
    refine' wpAnyH_take (i := 7) ?hi7 (by kernel_rfl) (by kernel_rfl) (by kernel_rfl) ?hQ7 (Or.inl ⟨?hw7, ?hy7⟩) (by assumption) ?_
    case hi7 => (simp only [List.getElem?_toArray, List.getElem?_cons_succ, List.getElem?_cons_zero]; rfl)
    case hQ7 => exact fun _ _ _ h => h
    case hw7 => rfl
    case hy7 => (intro w' hSw; (try dsimp only at hSw); go_simp; all_goals with_reducible rfl)
    try simp only [Act.put, List.setIfInBounds_toArray, List.set_cons_zero, List.set_cons_succ]
    refine wpAnyH_ready (rs := [8]) (by kernel_rfl) (by simp) ?_
    refine AllReadyH.cons rfl (fun K hK => ?_) AllReadyH.nil
    refine step_copy_eq (by rfl) _ _ 22 22 (by rfl) _ _ (by rfl) (by rfl) (hcp2 _ _ _) ?_
    refine hK.out _ _ trivial (fun _ => ?_)
    clear hK K
    try simp only [Act.put, List.setIfInBounds_toArray, List.set_cons_zero, List.set_cons_succ]
    refine wpAnyH_done (by kernel_rfl) ?_ _
    go_wp2_with fail
    go_ret
    exact ⟨_, rfl, hfin.out⟩
theorem insert_any (T : List File) (i : Nat) (f : File) (v fv : Value) (w0 w : World) (B : Nat) (E : TypeId) (hn : OwnN 76 w0 w v T) (hi : i ≤ T.length) (hT : T.length ≤ 1000000)
    (hB : w.heap[B]? = some (.cells #[.string f.path, fv] E (0, 0))) (hvB : ∀ k, v.ownBlock = some k → k ≠ B) (hf : Dat.rd w (fun k => Never k ∨ v.ownBlock = some k) [.string f.path, fv] f) :
    Calls Tryz.prog 41 #[v, .int .i64 i, .slice (some ⟨B, 0, none⟩) 1 1] w fun e w' => ∃ r, e = .returned r ∧ OwnN 76 w0 w' r (insAt T i f) := by
  rcases Nat.lt_or_ge i T.length with h | h
  · exact insert_room T i f v fv w0 w B E hn h hT hB hvB hf
  · obtain rfl : i = T.length := by omega
    have e : insAt T T.length f = T ++ [f] := by unfold insAt; rw [List.take_length, List.drop_length]
    rw [e]
    exact insert_end T f v fv w0 w B E hn hT hB hvB hf
end Go.Proofs.YteocmmejfnmjcaaGreatDoor
namespace Go.Proofs.YteocmmejfnmjcaaGreatDoor
open Go.RowKit

set_option maxRecDepth 100000 in
theorem find_cmp (x : File) (p : ByteArray) (lv : Value) (w : World) :
    Calls Tryz.prog 65 #[.agg #[.string x.path, lv], .string p] w fun e w' => e = .returned (.int .i64 (Lib.compareBytes x.path.data.toList p.data.toList)) ∧ Chg Never w w' := by
  go_enter Tryz.func65, Tryz.ntmps65
  go_wp2_with fail
  refine (Tryz.strings_Compare x.path p _).mono ?_
  rintro e w1 ⟨rfl, hw1⟩
  rw [hw1]
  go_wp2_with fail
  go_ret
  exact ⟨rfl, (Chg.refl _ _).alloc _⟩
theorem cmp_less {a b : ByteArray} : (Lib.compareBytes a.data.toList b.data.toList < 0 ↔ less a b = true) ∧ (Lib.compareBytes a.data.toList b.data.toList = 0 ↔ a = b) := by
  obtain ⟨h1, h2⟩ := compare_bl a.data.toList b.data.toList
  refine ⟨?_, ?_⟩
  · rw [h1]; unfold less; rw [Lib.toList_data, Lib.toList_data]
  · rw [h2]
    exact ⟨fun h => ByteArray.ext (Array.toList_inj.1 h), fun h => by rw [h]⟩

/-- what a binary search has told of the places from a to b -/
structure BSt (t : List File) (p : ByteArray) (a b : Nat) : Prop where
  le : a ≤ b
  top : b ≤ t.length
  lo : ∀ q f, q < a → t[q]? = some f → less f.path p = true
  hi : ∀ q f, b ≤ q → t[q]? = some f → less f.path p = false
theorem bst_start (t : List File) (p : ByteArray) : BSt t p 0 t.length :=
  ⟨Nat.zero_le _, Nat.le_refl _, fun q f h => absurd h (Nat.not_lt_zero q), fun q f h hf => by have := (List.getElem?_eq_some_iff.1 hf).1; omega⟩
theorem BSt.up {t : List File} {p : ByteArray} {a b c : Nat} {x : File} (h : BSt t p a b) (hs : Sorted t) (h1 : a ≤ c) (h2 : c < b) (hx : t[c]? = some x) (hl : less x.path p = true) : BSt t p (c + 1) b :=
  ⟨by omega, h.top, fun q f hq hf => by
    by_cases e : q = c
    · subst e; rw [hx] at hf; injection hf with hf; rw [← hf]; exact hl
    · exact less_trans (sorted_mono hs (show q < c by omega) hf hx) hl, h.hi⟩
theorem BSt.down {t : List File} {p : ByteArray} {a b c : Nat} {x : File} (h : BSt t p a b) (hs : Sorted t) (h1 : a ≤ c) (h2 : c < b) (hx : t[c]? = some x) (hl : less x.path p = false) : BSt t p a c :=
  ⟨h1, by have := h.top; omega, h.lo, fun q f hq hf => by
    by_cases e : q = c
    · subst e; rw [hx] at hf; injection hf with hf; rw [← hf]; exact hl
    · have hm := sorted_mono hs (show c < q by omega) hx hf
      cases hb : less f.path p with
      | false => rfl
      | true => have := less_trans hm hb; rw [hl] at this; cases this⟩
theorem BSt.pos {t : List File} {p : ByteArray} {a : Nat} (h : BSt t p a a) : posOf t p = a := pos_unique h.lo (fun f hf => h.hi a f (Nat.le_refl _) hf) h.top

set_option maxHeartbeats 2000000 in
set_option maxRecDepth 100000 in
theorem bs_any (t : List File) (p : ByteArray) (v : Value) (w : World) (h : Rdv w Never v t) (hs : Sorted t) (hl : t.length ≤ 1000000) :
    Calls Tryz.prog 64 #[v, .string p, .func (.func 65) #[] #[]] w fun e w' => e = .returned (.tuple #[.int .i64 (posOf t p), .bool (isAt t p)]) ∧ Chg Never w w' := by
  have HS := Lib.hid hs
  clear hs
  obtain ⟨a, cap, rfl, h1, h2, h3⟩ := rdv_slice h
  unfold maxLen at h2
  go_enter Tryz.func64, Tryz.ntmps64
  go_wp2_with fail
  go_loopw [9, 10] (fun i j wr => ∃ x y : Nat, i = .int .i64 x ∧ j = .int .i64 y ∧ Chg Never w wr ∧ BSt t p x y) (fun i j _ => (intOf j).toNat - (intOf i).toNat)
  case atStart => exact ⟨0, t.length, rfl, rfl, Chg.refl _ _, bst_start t p⟩
  case round =>
    obtain ⟨x, y, rfl, rfl, hc, hB⟩ := hrel
    have hle := hB.le
    have htop := hB.top
    by_cases hlt : x < y
    · obtain ⟨z, hz⟩ : ∃ z, (x + y) / 2 = z := ⟨_, rfl⟩
      have zI : ((x : Int) + y) / 2 = z := by omega
      have hz1 : x ≤ z := by omega
      have hz2 : z < y := by omega
      obtain ⟨f, hf⟩ : ∃ f, t[z]? = some f := ⟨t[z]'(by omega), by simp [show z < t.length by omega]⟩
      obtain ⟨b, off, lv, rfl, _, _, c0, c1, _, _⟩ := elems_file h3 hf
      have c0 := hc.cellNever c0
      have c1 := hc.cellNever c1
      have HX := Lib.hid hf
      clear hf
      cases hq : less f.path p with
      | true =>
        have t1 : decide (Lib.compareBytes f.path.data.toList p.data.toList < 0) = true := decide_eq_true (cmp_less.1.2 hq)
        go_wp2_with fail
        refine (find_cmp f p _ _).mono ?_
        rintro e w2 ⟨rfl, hc2⟩
        have hc2 := hc.trans hc2
        clear c0 c1
        go_wp2_with fail
        go_roundw
        case rel => exact ⟨z + 1, y, by go_num, rfl, hc2, hB.up HS.out hz1 hz2 HX.out hq⟩
        case measure => simp [intOf] <;> omega
      | false =>
        have t1 : decide (Lib.compareBytes f.path.data.toList p.data.toList < 0) = false := decide_eq_false (fun hh => by rw [cmp_less.1.1 hh] at hq; cases hq)
        go_wp2_with fail
        refine (find_cmp f p _ _).mono ?_
        rintro e w2 ⟨rfl, hc2⟩
        have hc2 := hc.trans hc2
        clear c0 c1
        go_wp2_with fail
        go_roundw
        case rel => exact ⟨x, z, rfl, rfl, hc2, hB.down HS.out hz1 hz2 HX.out hq⟩
        case measure => simp [intOf] <;> omega
    · obtain rfl : x = y := by omega
      have HP := Lib.hid hB.pos
      by_cases hxt : x < t.length
      · obtain ⟨f, hf⟩ : ∃ f, t[x]? = some f := ⟨t[x], by simp [hxt]⟩
        obtain ⟨b, off, lv, rfl, _, _, c0, c1, _, _⟩ := elems_file h3 hf
        have c0 := hc.cellNever c0
        have c1 := hc.cellNever c1
        by_cases e : f.path = p
        · have HI : Hid (isAt t p = true) := by unfold Hid isAt; rw [HP.out, hf]; simp [e]
          have t1 : (Lib.compareBytes f.path.data.toList p.data.toList == 0) = true := beq_iff_eq.2 (cmp_less.2.2 e)
          clear hf e
          go_wp2_with fail
          refine (find_cmp f p _ _).mono ?_
          rintro e w2 ⟨rfl, hc2⟩
          have hc2 := hc.trans hc2
          clear c0 c1
          go_wp2_with fail
          go_ret2
          exact ⟨by rw [HP.out, HI.out]; rfl, hc2⟩
        · have HI : Hid (isAt t p = false) := by unfold Hid isAt; rw [HP.out, hf]; simp [e]
          have t1 : (Lib.compareBytes f.path.data.toList p.data.toList == 0) = false := beq_eq_false_iff_ne.2 (fun hh => e (cmp_less.2.1 hh))
          clear hf e
          go_wp2_with fail
          refine (find_cmp f p _ _).mono ?_
          rintro e w2 ⟨rfl, hc2⟩
          have hc2 := hc.trans hc2
          clear c0 c1
          go_wp2_with fail
          go_ret2
          exact ⟨by rw [HP.out, HI.out]; rfl, hc2⟩
      · have HI : Hid (isAt t p = false) := by unfold Hid isAt; rw [HP.out, List.getElem?_eq_none (by omega)]; rfl
        go_wp2_with fail
        go_ret2
        exact ⟨by rw [HP.out, HI.out]; rfl, hc⟩

set_option maxHeartbeats 2000000 in
set_option maxRecDepth 100000 in
theorem find_any (t : List File) (p : ByteArray) (v : Value) (w : World) (h : Rdv w Never v t) (hs : Sorted t) (hl : t.length ≤ 1000000) :
    Calls Tryz.prog 38 #[v, .string p] w fun e w' => e = .returned (.tuple #[.int .i64 (posOf t p), .bool (isAt t p)]) ∧ Chg Never w w' := by
  obtain ⟨a, cap, rfl, h1, h2, h3⟩ := rdv_slice h
  unfold maxLen at h2
  go_enter Tryz.func38, Tryz.ntmps38
  go_wp2_with fail
  refine (bs_any t p _ _ h hs hl).mono ?_
  rintro e w1 ⟨rfl, hc⟩
  go_wp2_with fail
  go_ret2
  exact ⟨rfl, hc⟩
end Go.Proofs.YteocmmejfnmjcaaGreatDoor
namespace Go.Proofs.YteocmmejfnmjcaaGreatDoor
open Go.RowKit

theorem rd_mark_any (w : World) (O O' : Nat → Prop) : ∀ cs (y : Mark), Dat.rd w O cs y → Dat.rd w O' cs y := fun _ _ h => h
theorem own_made {α : Type} [Dat α] (w : World) (e : TypeId) : Own e (w.alloc (.cells #[] e)) (Old w.heap.size) (.slice (some ⟨w.heap.size, 0, none⟩) 0 0) ([] : List α) :=
  ⟨[], World.ownsRow_made w #[] 0 (Nat.zero_le _) (by unfold maxLen; omega) (by simp), fun k hk ho => by
    simp only [Value.ownBlock, Option.some.injEq] at hk
    subst hk
    unfold Old at ho
    omega, fun i x hi => by simp at hi⟩

set_option maxHeartbeats 800000 in
set_option maxRecDepth 100000 in
theorem clone_str (O : Nat → Prop) (l : List ByteArray) (v : Value) (w : World) (h : Rdv w O v l) (hl : l.length ≤ 1000000) :
    Calls Tryz.prog 63 #[v] w fun e w' => ∃ r, e = .returned r ∧ Chg Never w w' ∧ Own 9 w' (Old w.heap.size) r l := by
  obtain ⟨a, cap, rfl, h1, h2, h3⟩ := rdv_slice h
  unfold maxLen at h2
  cases a with
  | none =>
    have hn : l = [] := by
      cases l with
      | nil => rfl
      | cons x l =>
        obtain ⟨b, off, es, ha, _⟩ := h3 0 x rfl
        cases ha
    subst hn
    have he : ∀ wx, (binOp .eql 62 (.slice none 0 cap) (.slice none 0 0)).run Tryz.prog wx = .ok (.bool true) wx := fun wx => Lib.run_eql_slice_nil wx 62 9 none 0 cap 0 0 Tryz.underlying62
    go_enter Tryz.func63, Tryz.ntmps63
    go_wp2_with fail
    go_ret
    exact ⟨_, rfl, Chg.refl _ _, own_nil _ _ _⟩
  | some a =>
    have hm := own_made (α := ByteArray) w 9
    have hA : Chg Never w (w.alloc (.cells #[] 9)) := (Chg.refl Never w).alloc _
    have hr := (h.sub (O' := Never) (fun _ _ h => h.elim)).never hA
    have hO : ∀ k, Old w.heap.size k → k < (w.alloc (.cells #[] 9)).heap.size := by
      intro k hk
      unfold Old at hk
      simp
      omega
    have hle : ([] : List ByteArray).length + l.length ≤ 1000000000 := by simp; omega
    clear h3 h
    have he : ∀ wx, (binOp .eql 62 (.slice (some a) l.length cap) (.slice none 0 0)).run Tryz.prog wx = .ok (.bool false) wx := fun wx => Lib.run_eql_slice_nil wx 62 9 (some a) l.length cap 0 0 Tryz.underlying62
    go_enter Tryz.func63, Tryz.ntmps63
    go_wp2_with (at_builtin; refine wpList_many (by rfl) _ _ 62 (by rfl) elemOk_str (O := Old w.heap.size) (by rfl) (by rfl) hm hr (rd_str_any _ _ _) hO hle ?_; intro v' w5 hown2 hc2)
    have hc3 := own_step hA hm hc2
    clear hm hr hc2
    go_wp2_with fail
    go_ret
    exact ⟨_, rfl, hc3, hown2⟩
set_option maxHeartbeats 800000 in
set_option maxRecDepth 100000 in
theorem clone_mark (O : Nat → Prop) (l : List Mark) (v : Value) (w : World) (h : Rdv w O v l) (hl : l.length ≤ 1000000) :
    Calls Tryz.prog 73 #[v] w fun e w' => ∃ r, e = .returned r ∧ Chg Never w w' ∧ Own 72 w' (Old w.heap.size) r l := by
  obtain ⟨a, cap, rfl, h1, h2, h3⟩ := rdv_slice h
  unfold maxLen at h2
  cases a with
  | none =>
    have hn : l = [] := by
      cases l with
      | nil => rfl
      | cons x l =>
        obtain ⟨b, off, es, ha, _⟩ := h3 0 x rfl
        cases ha
    subst hn
    have he : ∀ wx, (binOp .eql 59 (.slice none 0 cap) (.slice none 0 0)).run Tryz.prog wx = .ok (.bool true) wx := fun wx => Lib.run_eql_slice_nil wx 59 72 none 0 cap 0 0 Tryz.underlying59
    go_enter Tryz.func73, Tryz.ntmps73
    go_wp2_with fail
    go_ret
    exact ⟨_, rfl, Chg.refl _ _, own_nil _ _ _⟩
  | some a =>
    have hm := own_made (α := Mark) w 72
    have hA : Chg Never w (w.alloc (.cells #[] 72)) := (Chg.refl Never w).alloc _
    have hr := (h.sub (O' := Never) (fun _ _ h => h.elim)).never hA
    have hO : ∀ k, Old w.heap.size k → k < (w.alloc (.cells #[] 72)).heap.size := by
      intro k hk
      unfold Old at hk
      simp
      omega
    have hle : ([] : List Mark).length + l.length ≤ 1000000000 := by simp; omega
    clear h3 h
    have he : ∀ wx, (binOp .eql 59 (.slice (some a) l.length cap) (.slice none 0 0)).run Tryz.prog wx = .ok (.bool false) wx := fun wx => Lib.run_eql_slice_nil wx 59 72 (some a) l.length cap 0 0 Tryz.underlying59
    go_enter Tryz.func73, Tryz.ntmps73
    go_wp2_with (at_builtin; refine wpList_many (by rfl) _ _ 59 (by rfl) elemOk_mark (O := Old w.heap.size) (by rfl) (by rfl) hm hr (rd_mark_any _ _ _) hO hle ?_; intro v' w5 hown2 hc2)
    have hc3 := own_step hA hm hc2
    clear hm hr hc2
    go_wp2_with fail
    go_ret
    exact ⟨_, rfl, hc3, hown2⟩

set_option maxHeartbeats 800000 in
set_option maxRecDepth 100000 in
theorem copy_any (h : Hunk) (mv : Value) (w : World) (hm : Rdv w Never mv h.marks) (hl : h.marks.length ≤ 120) :
    Calls Tryz.prog 50 #[.agg #[.int .i64 h.old, .int .i64 h.new, mv]] w fun e w' => ∃ r, e = .returned (.agg #[.int .i64 h.old, .int .i64 h.new, r]) ∧ Chg Never w w' ∧ Rdv w' (Old w.heap.size) r h.marks := by
  obtain ⟨o, n, l⟩ := h
  simp only at hm hl ⊢
  obtain ⟨a, cap, rfl, h1, h2, h3⟩ := rdv_slice hm
  have hA : Chg Never w ((w.alloc (.cells #[.int .i64 o, .int .i64 n, .slice a l.length cap] 61)).alloc (.cells #[.int .i64 0, .int .i64 0, .slice none 0 0] 61)) := ((Chg.refl Never w).alloc _).alloc _
  have hP : Blk3 ((w.alloc (.cells #[.int .i64 o, .int .i64 n, .slice a l.length cap] 61)).alloc (.cells #[.int .i64 0, .int .i64 0, .slice none 0 0] 61)) w.heap.size 61 (.int .i64 o) (.int .i64 n) (.slice a l.length cap) :=
    (Blk3.new w 61 (.int .i64 o) (.int .i64 n) (.slice a l.length cap)).keep (O := Never) ((Chg.refl _ _).alloc _) (fun h => h)
  have hR : Blk3 ((w.alloc (.cells #[.int .i64 o, .int .i64 n, .slice a l.length cap] 61)).alloc (.cells #[.int .i64 0, .int .i64 0, .slice none 0 0] 61)) (w.heap.size + 1) 61 (.int .i64 0) (.int .i64 0) (.slice none 0 0) := by
    have := Blk3.new (w.alloc (.cells #[.int .i64 o, .int .i64 n, .slice a l.length cap] 61)) 61 (.int .i64 0) (.int .i64 0) (.slice none 0 0)
    rw [World.size_alloc] at this
    exact this
  go_enter Tryz.func50, Tryz.ntmps50
  go_wp2_with fail
  refine (clone_mark Never l _ _ (hm.never hA) (by omega)).mono ?_
  rintro e w2 ⟨r, rfl, hc2, hown⟩
  obtain ⟨ra, rn, rc, rfl⟩ := own_isSlice hown
  have hP2 := hP.keep hc2 (fun h => h)
  have hR2 := hR.keep hc2 (fun h => h)
  have hc := hA.trans hc2
  have hown' := hown.keep (O'' := Old (w.heap.size + 2)) (Chg.refl Never _) (fun _ _ h => h.elim) (fun j _ hj => by unfold Old at *; simp; omega)
  have hP3 := hP2.set2 (.slice ra rn rc)
  have hR3 := hR2.keep (O := fun j => j = w.heap.size) ((Chg.refl (fun j => j = w.heap.size) w2).setCell (p := ⟨w.heap.size, 2, none⟩) (.inr rfl) (.slice ra rn rc)) (by omega)
  have hS : Chg (fun j => j = w.heap.size ∨ j = w.heap.size + 1) w2 ((((w2.setCell ⟨w.heap.size, 2, none⟩ (.slice ra rn rc)).setCell ⟨w.heap.size + 1, 0, none⟩ (.int .i64 o)).setCell ⟨w.heap.size + 1, 1, none⟩ (.int .i64 n)).setCell ⟨w.heap.size + 1, 2, none⟩ (.slice ra rn rc)) :=
    ((((Chg.refl (fun j => j = w.heap.size ∨ j = w.heap.size + 1) w2).setCell (p := ⟨w.heap.size, 2, none⟩) (.inr (.inl rfl)) _).setCell (p := ⟨w.heap.size + 1, 0, none⟩) (.inr (.inr rfl)) _).setCell (p := ⟨w.heap.size + 1, 1, none⟩) (.inr (.inr rfl)) _).setCell (p := ⟨w.heap.size + 1, 2, none⟩) (.inr (.inr rfl)) _
  have hr := (hown'.keep (O'' := Old w.heap.size) hS (fun j _ h => by unfold Old; omega) (fun j _ h => by unfold Old at *; omega)).rdv
  have hcF := hc.trans' hS (O := Never) (fun j hj h => by omega)
  obtain ⟨f0, f1, f2⟩ := (((hR3.set0 (.int .i64 o)).set1 (.int .i64 n)).set2 (.slice ra rn rc)).cell
  obtain ⟨p0, p1, p2⟩ := hP2.cell
  have pf := hP2.free
  obtain ⟨q0, q1, q2⟩ := hP3.cell
  obtain ⟨r0, r1, r2⟩ := hR3.cell
  have rf := hR3.free
  clear hS hown' hown hP hR hP3 hR3 hP2 hR2 hA hc2 hc h3 hm
  go_wp2_with fail
  exact bodyPost_ret (v := .agg #[.int .i64 o, .int .i64 n, .slice ra rn rc]) (by simp [results, Tryz.results50, go_sem, f0, f1, f2]) rfl ⟨_, rfl, hcF, hr⟩
end Go.Proofs.YteocmmejfnmjcaaGreatDoor
namespace Go.Proofs.YteocmmejfnmjcaaGreatDoor
open Go.RowKit

/-- block B holds two cells of its own -/
def Blk2 (w : World) (B : Nat) (t : TypeId) (x y : Value) : Prop := w.heap[B]? = some (.cells #[x, y] t (0, 0))
theorem Blk2.cell {w : World} {B : Nat} {t : TypeId} {x y : Value} (h : Blk2 w B t x y) : w.cell? ⟨B, 0, none⟩ = some x ∧ w.cell? ⟨B, 1, none⟩ = some y := by
  unfold Blk2 at h
  refine ⟨?_, ?_⟩ <;> (unfold World.cell?; rw [h]; rfl)
theorem Blk2.free {w : World} {B : Nat} {t : TypeId} {x y : Value} (h : Blk2 w B t x y) (j : Nat) : w.frozen? ⟨B, j, none⟩ = false := by
  unfold Blk2 at h
  unfold World.frozen?; rw [h]; simp
theorem Blk2.lt {w : World} {B : Nat} {t : TypeId} {x y : Value} (h : Blk2 w B t x y) : B < w.heap.size := (Array.getElem?_eq_some_iff.1 h).1
theorem Blk2.keep {w w' : World} {B : Nat} {t : TypeId} {x y : Value} {O : Nat → Prop} (h : Blk2 w B t x y) (hc : Chg O w w') (hB : ¬ O B) : Blk2 w' B t x y := by
  unfold Blk2 at *
  rw [hc.block B (Array.getElem?_eq_some_iff.1 h).1 hB]
  exact h
theorem Blk2.set1 {w : World} {B : Nat} {t : TypeId} {x y : Value} (h : Blk2 w B t x y) (u : Value) : Blk2 (w.setCell ⟨B, 1, none⟩ u) B t x u := by
  unfold Blk2 at *
  simp [World.setCell, Array.getElem?_modify, h]
theorem Blk2.new (w : World) (t : TypeId) (x y : Value) : Blk2 (w.alloc (.cells #[x, y] t)) w.heap.size t x y := heap_alloc_new _ _
end Go.Proofs.YteocmmejfnmjcaaGreatDoor
namespace Go.Proofs.YteocmmejfnmjcaaGreatDoor
open Go.RowKit

theorem take_snoc {α : Type} {l : List α} {k : Nat} {x : α} (hx : l[k]? = some x) : l.take (k + 1) = l.take k ++ [x] := by rw [List.take_add_one, hx]; rfl
set_option maxHeartbeats 2000000 in
set_option maxRecDepth 100000 in
theorem tree_copy_any (t : List File) (v : Value) (w : World) (h : Rdv w Never v t) (hl : t.length ≤ 1000000) (hll : ∀ f ∈ t, f.lines.length ≤ 1000000) :
    Calls Tryz.prog 37 #[v] w fun e w' => ∃ r, e = .returned r ∧ Chg Never w w' ∧ Own 76 w' (Old w.heap.size) r t := by
  obtain ⟨a, cap, rfl, h1, h2, h3⟩ := rdv_slice h
  unfold maxLen at h2
  go_enter Tryz.func37, Tryz.ntmps37
  go_wp2_with fail
  go_loopw [3, 8] (fun o i wr => ∃ k : Nat, k ≤ t.length ∧ i = .int .i64 k ∧ Chg Never w wr ∧ Own 76 wr (Old w.heap.size) o (t.take k)) (fun _ i _ => t.length - (intOf i).toNat)
  case atStart => exact ⟨0, Nat.zero_le _, rfl, Chg.refl _ _, own_nil _ _ _⟩
  case round =>
    obtain ⟨k, hk, rfl, hc, hown⟩ := hrel
    by_cases hlt : k < t.length
    · obtain ⟨x, hx⟩ : ∃ x, t[k]? = some x := ⟨t[k], by simp [hlt]⟩
      obtain ⟨b, off, lv, rfl, _, _, c0, c1, hps, hlv⟩ := elems_file h3 hx
      obtain ⟨la, lcap, rfl, _, _, _⟩ := rdv_slice hlv
      have hxl := hll x (List.mem_of_getElem? hx)
      have c0 := hc.cellNever c0
      have c1 := hc.cellNever c1
      have HT := Lib.hid (take_snoc hx)
      have htl : (t.take k).length ≤ 1000000000 := Nat.le_trans (List.length_take_le _ _) (by omega)
      have hsz := hc.size
      have holt := own_block_lt hown
      have hA : Chg Never wr (wr.alloc (.cells #[.string x.path, .slice la x.lines.length lcap] 76)) := (Chg.refl Never wr).alloc _
      have hBX := Blk2.new wr 76 (.string x.path) (.slice la x.lines.length lcap)
      have hownA := hown.keep (O'' := fun j => Old w.heap.size j ∨ j = wr.heap.size) hA (fun _ _ hh => hh.elim) (by rintro j hj (hh | rfl); exact hh; exact absurd hj (Nat.lt_irrefl _))
      have hlvA := (hlv.never hc).never hA
      have hcA := hc.trans hA
      have hBlt := hBX.lt
      obtain ⟨b0, b1⟩ := hBX.cell
      clear hx h3 h hown hlv
      go_wp2_with fail
      generalize wr.alloc (.cells #[.string x.path, .slice la x.lines.length lcap] 76) = w3 at hBX hownA hlvA hcA hBlt b0 b1 hA ⊢
      generalize hBe : wr.heap.size = B at hBX hownA hBlt b0 b1 hsz holt ⊢
      clear hc hA hBe
      refine (clone_str Never x.lines _ _ hlvA hxl).mono ?_
      rintro e w4 ⟨r4, rfl, hc4, hown4⟩
      obtain ⟨ra, rn, rc, rfl⟩ := own_isSlice hown4
      have hB4 := hBX.keep hc4 (fun h => h)
      have b3 := hB4.free
      have hB5 := hB4.set1 (.slice ra rn rc)
      obtain ⟨b0, b1⟩ := hB4.cell
      obtain ⟨k0, k1⟩ := hB5.cell
      have hS : Chg (fun j => j = B) w4 (w4.setCell ⟨B, 1, none⟩ (.slice ra rn rc)) := (Chg.refl (fun j => j = B) w4).setCell (p := ⟨B, 1, none⟩) (.inr rfl) _
      have hown5 := (hownA.never hc4).keep (O'' := Old w.heap.size) hS (fun j _ hh => .inr hh) (fun j _ hh => .inl hh)
      have hr := (hown4.keep (O'' := Old w3.heap.size) hS (fun j _ hh => by subst hh; exact hBlt) (fun _ _ hh => hh)).rdv
      have hc5 := (hcA.trans hc4).setCell (p := ⟨B, 1, none⟩) (.inl hsz) (.slice ra rn rc)
      have hszw := hcA.size
      have hy : Dat.rd (w4.setCell ⟨B, 1, none⟩ (.slice ra rn rc)) (fun j => Old w.heap.size j ∨ u3.ownBlock = some j) [.string x.path, .slice ra rn rc] x := ⟨_, rfl, hps, hr.sub (fun j _ hh => by
        rcases hh with hh | hh
        · exact Nat.lt_of_lt_of_le hh hszw
        · exact Nat.lt_trans (holt j hh) hBlt)⟩
      clear hr hS hB4 hBX hown4 hc4 hownA hcA hlvA hB5
      go_wp2_with (at_builtin; refine wpList_push (by rfl) _ _ 22 (by rfl) elemOk_file (O := Old w.heap.size) (l := t.take k) (y := x) (by rfl) (by rfl) (by simp) hown5 hy (old_lt hc5) htl ?_; intro v' w6 hown6 hc6 _)
      have hc7 := own_step hc5 hown5 hc6
      clear hc6 hown5 hy
      go_wp2_with fail
      go_roundw
      case rel => exact ⟨k + 1, by omega, by go_num, hc7, by rw [HT.out]; exact hown6⟩
      case measure => simp [intOf] <;> omega
    · rw [List.take_of_length_le (by omega)] at hown
      go_wp2_with fail
      go_ret
      exact ⟨_, rfl, hc, hown⟩
end Go.Proofs.YteocmmejfnmjcaaGreatDoor
namespace Go.Proofs.YteocmmejfnmjcaaGreatDoor

theorem place_cons (x : File) (r : List File) (p : ByteArray) : placeOf (x :: r) p = if x.path = p then some 0 else (placeOf r p).map (· + 1) := by
  unfold placeOf
  rw [List.findIdx?_cons]
  by_cases h : x.path = p
  · rw [if_pos h, decide_eq_true h]; rfl
  · rw [if_neg h, decide_eq_false h]; rfl
/-- a place and a lookup are the same -/
theorem place_look : ∀ (t : List File) (p : ByteArray), (placeOf t p = none ∧ look t p = none) ∨ ∃ i f, placeOf t p = some i ∧ t[i]? = some f ∧ look t p = some f.lines
  | [], p => .inl ⟨rfl, rfl⟩
  | x :: r, p => by
    rw [place_cons, look_cons]
    by_cases h : x.path = p
    · exact .inr ⟨0, x, if_pos h, rfl, if_pos h⟩
    · rw [if_neg h, if_neg h]
      rcases place_look r p with ⟨h1, h2⟩ | ⟨i, f, h1, h2, h3⟩
      · exact .inl ⟨by rw [h1]; rfl, h2⟩
      · exact .inr ⟨i + 1, f, by rw [h1]; rfl, by rw [List.getElem?_cons_succ]; exact h2, h3⟩
theorem placeI_look (t : List File) (p : ByteArray) : (placeI t p = -1 ∧ look t p = none) ∨ ∃ (i : Nat) (f : File), placeI t p = i ∧ t[i]? = some f ∧ look t p = some f.lines := by
  rcases place_look t p with ⟨h1, h2⟩ | ⟨i, f, h1, h2, h3⟩
  · exact .inl ⟨by unfold placeI; rw [h1], h2⟩
  · exact .inr ⟨i, f, by unfold placeI; rw [h1], h2, h3⟩
theorem allOf_len : ∀ (b a : List File), Sorted a → (allOf a b).length ≤ a.length + b.length
  | [], a, _ => Nat.le_refl _
  | x :: r, a, h => by
    have := allOf_len r (putAt a x) (putAt_sorted h x)
    have e := putAt_len h x
    have : (putAt a x).length ≤ a.length + 1 := by rw [e]; split <;> omega
    show (allOf (putAt a x) r).length ≤ _
    rw [List.length_cons]; omega
theorem all_step (a b : List File) {k : Nat} {x : File} (h : b[k]? = some x) : allOf a (b.take (k + 1)) = putAt (allOf a (b.take k)) x := by
  unfold allOf
  rw [List.take_add_one, h, List.foldl_append]; rfl
theorem sorted_take {b : List File} (h : Sorted b) (k : Nat) : Sorted (b.take k) := List.Pairwise.sublist (List.take_sublist _ _) h
/-- each of all is in one of both -/
theorem all_known {a b : List File} (h : Sorted a) (g : Sorted b) {f : File} (hf : f ∈ allOf a b) : ¬ (look a f.path = none ∧ look b f.path = none) := by
  rintro ⟨h1, h2⟩
  have e := look_mem (all_sorted b a h) hf
  rw [all_look _ b a h g, h1, h2] at e
  cases e
theorem flat_take {β : Type} {g : File → List β} {l : List File} {k : Nat} {x : File} (h : l[k]? = some x) : (l.take (k + 1)).flatMap g = (l.take k).flatMap g ++ g x := by
  rw [List.take_add_one, h, List.flatMap_append]; simp
theorem fileFault_lines {f : File} (h : fileFault f = 0) : linesFault f.lines = 0 := by
  unfold fileFault at h
  by_cases e : pathFault f.path = 0
  · rwa [if_pos e] at h
  · rw [if_neg e] at h; exact absurd h e
theorem checked_zero {x y : List ByteArray} (h : linesFault x = 0) (g : linesFault y = 0) : checkedFault x y = 0 := by unfold checkedFault; rw [if_pos h]; exact g
/-- of valid lines Make tells no fault -/
theorem make_valid {x y : List ByteArray} {n : Int} (h : linesFault x = 0) (g : linesFault y = 0) (n0 : 0 ≤ n) (n1 : n ≤ 1000) : makeFault x y n = 0 ∧ makeR x y n = cutOf (script x y) n := by
  have hc := checked_zero h g
  have hs := script_valid hc
  have e1 : (oldOf (script x y)).length = oldN (script x y) := rfl
  have e2 : (newOf (script x y)).length = newN (script x y) := rfl
  rw [script_old] at e1
  rw [script_new] at e2
  have l1 := linesFault_len h
  have l2 := linesFault_len g
  have hcut : cutFault (script x y) n = 0 := by
    unfold cutFault
    rw [if_neg (by rw [hs]; decide), if_neg (by omega), if_neg (by omega)]
  exact ⟨by unfold makeFault; rw [if_neg (by rw [hc]; decide)]; exact hcut, by unfold makeR cutR; rw [if_pos hc, if_pos hcut]⟩
/-! ### what lies between, step by step -/
theorem diffL_take {n : Int} {x : File} {a b : List File} (h : b = [] ∨ ∃ y r, b = y :: r ∧ less x.path y.path = true) : diffL n (x :: a) b = ⟨3, x.path, wholeR x.lines 45⟩ :: diffL n a b := by
  rcases h with rfl | ⟨y, r, rfl, h⟩
  · rw [diffL]
  · rw [diffL, if_pos h]
theorem diffL_put {n : Int} {y : File} {a b : List File} (h : a = [] ∨ ∃ x r, a = x :: r ∧ ¬ less x.path y.path = true ∧ less y.path x.path = true) : diffL n a (y :: b) = ⟨2, y.path, wholeR y.lines 43⟩ :: diffL n a b := by
  rcases h with rfl | ⟨x, r, rfl, h, g⟩
  · rw [diffL]
  · rw [diffL, if_neg h, if_pos g]
theorem diffL_both {n : Int} {x y : File} {a b : List File} (h : ¬ less x.path y.path = true) (g : ¬ less y.path x.path = true) : diffL n (x :: a) (y :: b) = chg n x.path (some x.lines) (some y.lines) ++ diffL n a b := by
  rw [diffL, if_neg h, if_neg g]
theorem diffL_nil (n : Int) : diffL n [] [] = [] := by rw [diffL]
theorem chg_none {n : Int} {p : ByteArray} {x y : List ByteArray} (h : cutOf (script x y) n = []) : chg n p (some x) (some y) = [] := if_pos h
theorem chg_some {n : Int} {p : ByteArray} {x y : List ByteArray} (h : cutOf (script x y) n ≠ []) : chg n p (some x) (some y) = [⟨1, p, cutOf (script x y) n⟩] := if_neg h
end Go.Proofs.YteocmmejfnmjcaaGreatDoor
