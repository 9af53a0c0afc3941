/-
  PARTS: TREES, in plain Lean (chapter 2): files by path, in order.; TREES BY WHAT IS LOOKED UP IN THEM, in plain Lean: what put and drop do to each path; two trees in which each path reads the same are the same.; PIECES OF A SCRIPT, in plain Lean (chapter 3, H2): what Cut answers.; WHAT LIES BETWEEN TWO TREES, in plain Lean: file by file of two sorted lists; the document's way by all paths of both is the same.; THE LAWS OF THE DISTANCE AND OF THE SCRIPT, in plain Lean (chapter 2, E2): symmetric, a triangle, 0 just of the same, attained by the script, no script is shorter.; THE WALKS OF LAYER 2: checked, measure, Far.; A SLICE THAT THE CALL ITSELF BUILDS BY append ('Own'): kept, pushed onto, read. No program in sight.; THE WALKS OF LAYER 2 over scripts: Check, those, Old, New; the laws' changes and Marks.; THE WALKS: edit.Old, edit.New; the laws' Marks.; THE WALK of edit.Script.; THE WALKS OF LAYER 3: kept, changed, Size, ContainsFunc, one.; THE WALKS OF LAYER 3: one, Check.; THE WALKS OF LAYER 3: Check.; PIECES OF A SCRIPT, plain laws: what Cut answers is pieces in order ('Pcs'), valid hunks, has all changes; turned; of a great context one piece; with more context no more pieces.; HUNKS DONE STRICTLY, plain laws: what Strict answers; hunks that lead from a file to another one; turned they lead back.; PATCHES, in plain Lean (chapter 2): what may be one, what is done to a tree, turned it leads back.; PATCHES AS TEXTS, in plain Lean (chapter 8): whole texts. What is printed is read; what is read is printed so.; TWO SERIES, WHICH IS WHICH, in plain Lean: the costs, what is told of a choice.
-/
import Derived.Test.YtgabchhplmncnaaGreatDoorPackRi1
import Derived.Lib.Bytealg
import GoSem.Op.String
import Derived.StillTailTactics
import Derived.Laws.StructEq
namespace Go.Proofs.YtgabchhplmncnaaGreatDoor

/-! ### the order of paths -/
theorem bl_cons (a b : UInt8) (x y : List UInt8) : Op.bytesLess (a :: x) (b :: y) = (decide (a < b) || (a == b && Op.bytesLess x y)) := by rw [Op.bytesLess]
theorem bl_nil_r (x : List UInt8) : Op.bytesLess x [] = false := by cases x <;> rfl
theorem bl_irrefl : ∀ x : List UInt8, Op.bytesLess x x = false
  | [] => rfl
  | a :: x => by rw [bl_cons, bl_irrefl x]; simp
theorem bl_trans : ∀ {x y z : List UInt8}, Op.bytesLess x y = true → Op.bytesLess y z = true → Op.bytesLess x z = true
  | _, [], _, h, _ => by rw [bl_nil_r] at h; cases h
  | _, _ :: _, [], _, h => by rw [bl_nil_r] at h; cases h
  | [], _ :: _, _ :: _, _, _ => rfl
  | a :: x, b :: y, c :: z, h, g => by
    rw [bl_cons] at h g ⊢
    simp only [Bool.or_eq_true, decide_eq_true_eq, Bool.and_eq_true, beq_iff_eq] at h g ⊢
    rcases h with h | ⟨rfl, h⟩
    · rcases g with g | ⟨rfl, g⟩
      · exact .inl (UInt8.lt_trans h g)
      · exact .inl h
    · rcases g with g | ⟨rfl, g⟩
      · exact .inl g
      · exact .inr ⟨rfl, bl_trans h g⟩
theorem bl_tri : ∀ x y : List UInt8, Op.bytesLess x y = true ∨ x = y ∨ Op.bytesLess y x = true
  | [], [] => .inr (.inl rfl)
  | [], _ :: _ => .inl rfl
  | _ :: _, [] => .inr (.inr rfl)
  | a :: x, b :: y => by
    rw [bl_cons, bl_cons]
    simp only [Bool.or_eq_true, decide_eq_true_eq, Bool.and_eq_true, beq_iff_eq, List.cons.injEq]
    rcases Nat.lt_trichotomy a.toNat b.toNat with h | h | h
    · exact .inl (.inl (UInt8.lt_iff_toNat_lt.2 h))
    · have hab : a = b := UInt8.toNat_inj.1 h
      subst hab
      rcases bl_tri x y with h | h | h
      · exact .inl (.inr ⟨rfl, h⟩)
      · exact .inr (.inl ⟨rfl, h⟩)
      · exact .inr (.inr (.inr ⟨rfl, h⟩))
    · exact .inr (.inr (.inl (UInt8.lt_iff_toNat_lt.2 h)))
def less (a b : ByteArray) : Bool := Op.bytesLess a.toList b.toList
theorem toList_inj {a b : ByteArray} (h : a.toList = b.toList) : a = b := by
  rw [Lib.toList_data, Lib.toList_data] at h
  exact ByteArray.ext (Array.toList_inj.1 h)
theorem less_irrefl (a : ByteArray) : less a a = false := bl_irrefl _
theorem less_trans {a b c : ByteArray} (h : less a b = true) (g : less b c = true) : less a c = true := bl_trans h g
theorem less_tri (a b : ByteArray) : less a b = true ∨ a = b ∨ less b a = true := by
  rcases bl_tri a.toList b.toList with h | h | h
  · exact .inl h
  · exact .inr (.inl (toList_inj h))
  · exact .inr (.inr h)
theorem less_asymm {a b : ByteArray} (h : less a b = true) : less b a = false := by
  cases hb : less b a with
  | false => rfl
  | true =>
    have := less_trans h hb
    rw [less_irrefl] at this
    cases this
theorem less_ne {a b : ByteArray} (h : less a b = true) : a ≠ b := by
  rintro rfl
  rw [less_irrefl] at h
  cases h
/-- the walk's 'a <= b' -/
def leqB (a b : ByteArray) : Bool := Op.bytesLess a.toList b.toList || a.toList == b.toList
theorem leqB_true {a b : ByteArray} : leqB a b = true ↔ less b a = false := by
  unfold leqB
  rw [Bool.or_eq_true, beq_iff_eq]
  constructor
  · rintro (h | h)
    · exact less_asymm h
    · rw [toList_inj h]; exact less_irrefl b
  · intro h
    rcases less_tri a b with g | g | g
    · exact .inl g
    · exact .inr (by rw [g])
    · rw [g] at h; cases h

/-! ### trees -/
end Go.Proofs.YtgabchhplmncnaaGreatDoor
namespace Go.Proofs.YtgabchhplmncnaaGreatDoor

def look (t : List File) (p : ByteArray) : Option (List ByteArray) := (t.find? fun f => decide (f.path = p)).map (·.lines)
theorem look_cons (x : File) (r : List File) (p : ByteArray) : look (x :: r) p = if x.path = p then some x.lines else look r p := by
  unfold look
  by_cases h : x.path = p
  · rw [List.find?_cons_of_pos (by simpa using h), if_pos h]; rfl
  · rw [List.find?_cons_of_neg (by simpa using h), if_neg h]
theorem look_none : ∀ {A : List File} {p : ByteArray}, (∀ x ∈ A, x.path ≠ p) → look A p = none
  | [], _, _ => rfl
  | x :: r, p, h => by rw [look_cons, if_neg (h x (List.mem_cons_self ..)), look_none fun y hy => h y (List.mem_cons_of_mem _ hy)]
/-! ### what makes a tree -/
end Go.Proofs.YtgabchhplmncnaaGreatDoor
namespace Go.Proofs.YtgabchhplmncnaaGreatDoor

def isChange (m : Mark) : Bool := !(m.sign == 32)
/-- is mark k within n of one that takes or puts? -/
def inAt (s : List Mark) (n : Int) (k : Nat) : Bool := (List.range s.length).any fun i => (s[i]?.any isChange) && decide ((k : Int) ≤ i + n) && decide ((i : Int) ≤ k + n)
/-- a mark more in the last hunk -/
def pushLast (out : List Hunk) (m : Mark) : List Hunk :=
  match out.getLast? with
  | some h => out.dropLast ++ [{ h with marks := h.marks ++ [m] }]
  | none => out
/-- one step: the hunks so far, whether the mark ahead was in one, how many old and new lines stand ahead -/
def cutStep (out : List Hunk) (was inn : Bool) (before after : Nat) (m : Mark) : List Hunk :=
  if inn then pushLast (if was then out else out ++ [⟨before, after, []⟩]) m else out
def cutTo (s : List Mark) (n : Int) : Nat → List Hunk
  | 0 => []
  | k + 1 => match s[k]? with
    | some m => cutStep (cutTo s n k) (decide (0 < k) && inAt s n (k - 1)) (inAt s n k) (oldN (s.take k)) (newN (s.take k)) m
    | none => cutTo s n k
def cutOf (s : List Mark) (n : Int) : List Hunk := cutTo s n s.length
end Go.Proofs.YtgabchhplmncnaaGreatDoor
namespace Go.Proofs.YtgabchhplmncnaaGreatDoor

def wholeR (l : List ByteArray) (s : Int) : List Hunk := if l = [] then [] else [⟨0, 0, l.map fun x => ⟨s, x⟩⟩]
/-- the change of a path by what it reads ahead and behind -/
def chg (n : Int) (p : ByteArray) : Option (List ByteArray) → Option (List ByteArray) → List Change
  | none, none => []
  | none, some y => [⟨2, p, wholeR y 43⟩]
  | some x, none => [⟨3, p, wholeR x 45⟩]
  | some x, some y => if cutOf (script x y) n = [] then [] else [⟨1, p, cutOf (script x y) n⟩]
/-- all of two lists lie behind a path -/
def Behind (p : ByteArray) (a : List File) : Prop := ∀ x ∈ a, less p x.path = true
theorem Behind.trans {p q : ByteArray} {a : List File} (h : Behind q a) (g : less p q = true) : Behind p a := fun x hx => less_trans g (h x hx)
theorem Behind.cons {p : ByteArray} {x : File} {a : List File} (h : Behind p a) (g : less p x.path = true) : Behind p (x :: a) := fun y hy => by
  rcases List.mem_cons.1 hy with rfl | hy
  · exact g
  · exact h y hy
theorem Behind.none {p : ByteArray} {a : List File} (h : Behind p a) : look a p = none := look_none fun x hx => (less_ne (h x hx)).symm
end Go.Proofs.YtgabchhplmncnaaGreatDoor
namespace Go.Proofs.YtgabchhplmncnaaGreatDoor

/-! ### scripts -/
end Go.Proofs.YtgabchhplmncnaaGreatDoor
namespace Go.Proofs.YtgabchhplmncnaaGreatDoor
open Go.RowKit

/-- the table at block T holds the distances of all places behind (x, y) -/
def Fil (T : Nat) (wr : World) (l m : List ByteArray) (x y : Int) : Prop :=
  ∃ c : Array Value, wr.heap[T]? = some (.cells c 260 (0, 0)) ∧ c.size = 3721 ∧ (∀ j, j < 3721 → ∃ n, c[j]? = some (.int .i64 n)) ∧
    ∀ i k : Nat, i ≤ l.length → k ≤ m.length → (x < i ∨ (x = i ∧ y < k)) → c[i * 61 + k]? = some (.int .i64 (far (l.drop i) (m.drop k)))

theorem Fil.cell {T : Nat} {wr : World} {l m : List ByteArray} {x y : Int} (h : Fil T wr l m x y) {i k : Nat} (hi : i ≤ l.length) (hk : k ≤ m.length) (hp : x < i ∨ (x = i ∧ y < k)) :
    wr.cell? ⟨T, i * 61 + k, none⟩ = some (.int .i64 (far (l.drop i) (m.drop k))) := by
  obtain ⟨c, h1, h2, h3, h4⟩ := h
  simp only [World.cell?, h1]
  exact h4 i k hi hk hp
theorem Fil.any {T : Nat} {wr : World} {l m : List ByteArray} {x y : Int} (h : Fil T wr l m x y) {j : Nat} (hj : j < 3721) :
    ∃ n, wr.cell? ⟨T, j, none⟩ = some (.int .i64 n) := by
  obtain ⟨c, h1, h2, h3, h4⟩ := h
  simp only [World.cell?, h1]
  exact h3 j hj
theorem Fil.free {T : Nat} {wr : World} {l m : List ByteArray} {x y : Int} (h : Fil T wr l m x y) (j : Nat) : wr.frozen? ⟨T, j, none⟩ = false := by
  obtain ⟨c, h1, h2, h3, h4⟩ := h
  simp [World.frozen?, h1]

theorem Fil.set {T : Nat} {wr : World} {l m : List ByteArray} {i k : Nat} (h : Fil T wr l m i k) (hl : l.length ≤ 60) (hm : m.length ≤ 60) (hi : i ≤ l.length) (hk : k ≤ m.length) {n : Int} (hn : n = far (l.drop i) (m.drop k)) :
    Fil T (wr.setCell ⟨T, i * 61 + k, none⟩ (.int .i64 n)) l m i ((k : Int) - 1) := by
  obtain ⟨c, h1, h2, h3, h4⟩ := h
  refine ⟨c.setIfInBounds (i * 61 + k) (.int .i64 n), ?_, by simpa using h2, ?_, ?_⟩
  · simp [World.setCell, Array.getElem?_modify, h1]
  · intro j hj
    by_cases e : i * 61 + k = j
    · exact ⟨n, by rw [Array.getElem?_setIfInBounds, if_pos e, if_pos (by omega)]⟩
    · obtain ⟨n', hn'⟩ := h3 j hj
      exact ⟨n', by rw [Array.getElem?_setIfInBounds, if_neg e]; exact hn'⟩
  · intro i' k' hi' hk' hp
    by_cases e : i * 61 + k = i' * 61 + k'
    · have e1 : i' = i := by omega
      have e2 : k' = k := by omega
      subst e1 e2
      rw [Array.getElem?_setIfInBounds, if_pos e, if_pos (by omega), hn]
    · rw [Array.getElem?_setIfInBounds, if_neg e]
      refine h4 i' k' hi' hk' ?_
      rcases hp with hp | ⟨hp, hq⟩
      · exact .inl hp
      · rcases Int.lt_or_le k k' with h5 | h5
        · exact .inr ⟨hp, h5⟩
        · exact absurd (by omega) e

theorem Fil.drewN {T : Nat} {wr : World} {l m : List ByteArray} {x y : Int} (h : Fil T wr l m x y) (n : Nat) : Fil T (wr.drewN n) l m x y := h
theorem Fil.drew {T : Nat} {wr : World} {l m : List ByteArray} {x y : Int} (h : Fil T wr l m x y) : Fil T wr.drew l m x y := h

theorem Fil.row {T : Nat} {wr : World} {l m : List ByteArray} {i : Nat} (h : Fil T wr l m i (-1)) : Fil T wr l m ((i : Int) - 1) m.length := by
  obtain ⟨c, h1, h2, h3, h4⟩ := h
  refine ⟨c, h1, h2, h3, ?_⟩
  intro i' k' hi' hk' hp
  refine h4 i' k' hi' hk' ?_
  omega

end Go.Proofs.YtgabchhplmncnaaGreatDoor
namespace Go.Proofs.YtgabchhplmncnaaGreatDoor
open Go.RowKit

theorem own_block_lt {α : Type} [Dat α] {e : TypeId} {w : World} {O : Nat → Prop} {v : Value} {l : List α} (h : Own e w O v l) : ∀ k, v.ownBlock = some k → k < w.heap.size := by
  obtain ⟨xs, h1, _⟩ := h
  exact fun k hk => (h1.lt k hk).2

theorem Own.keep {α : Type} [Dat α] {e : TypeId} {w w' : World} {O O' O'' : Nat → Prop} {v : Value} {l : List α} (h : Own e w O v l) (hc : Chg O' w w')
    (h1 : ∀ k, k < w.heap.size → O' k → O k) (h2 : ∀ k, k < w.heap.size → O'' k → O k) : Own e w' O'' v l := by
  obtain ⟨xs, hx, hb, hel⟩ := h
  have hlt := fun k hk => (hx.lt k hk).2
  refine ⟨xs, ?_, fun k hk ho => hb k hk (h2 k (hlt k hk) ho), ?_⟩
  · refine ⟨hx.1, ?_⟩
    rcases hx.2 with h | ⟨g, cap, cur, rfl, hg, hh, r⟩
    · exact .inl h
    · refine .inr ⟨g, cap, cur, rfl, hg, ?_, r⟩
      rw [hc.block g (hlt g rfl) (fun ho => hb g rfl (h1 g (hlt g rfl) ho))]
      exact hh
  · intro i x hi
    refine Dat.keep (hel i x hi) hc (fun k hk ho => .inl (h1 k hk ho)) ?_
    rintro k hk (ho | ho)
    · exact .inl (h2 k hk ho)
    · exact .inr ho
theorem Own.never {α : Type} [Dat α] {e : TypeId} {w w' : World} {O : Nat → Prop} {v : Value} {l : List α} (h : Own e w O v l) (hc : Chg Never w w') : Own e w' O v l :=
  h.keep hc (fun _ _ h => h.elim) (fun _ _ h => h)

/-- an owned slice reads as any other -/
theorem Own.rdv {α : Type} [Dat α] {e : TypeId} {w : World} {O : Nat → Prop} {v : Value} {l : List α} (h : Own e w O v l) : Rdv w O v l := by
  obtain ⟨xs, hx, hb, hel⟩ := h
  have hlen := hx.1
  rcases hx.2 with ⟨rfl, h0⟩ | ⟨g, cap, cur, rfl, hg, hh, hn, hm, hcs, htake⟩
  · have : l = [] := List.eq_nil_of_length_eq_zero h0
    subst this
    exact rdv_nil _ _
  · refine ⟨some ⟨g, 0, none⟩, cap, rfl, hn, hm, ?_⟩
    intro i x hi
    have hil := (List.getElem?_eq_some_iff.1 hi).1
    have hel' := hel i x hi
    have hel2 : Dat.rd w O _ x := Dat.keep hel' (Chg.refl Never w) (fun _ _ h => h.elim) (fun k _ ho => .inl ho)
    refine ⟨g, 0, _, rfl, hb g rfl, ?_, hel2⟩
    intro j u hj
    have hcell := World.ownsRow.cells hx (g := g) rfl (i * Dat.n α + j) u ?_
    · rw [← hcell]
      unfold Addr.add
      split <;> simp_all
    · rw [List.getElem?_take] at hj
      split at hj
      · rw [List.getElem?_drop] at hj; exact hj
      · cases hj

theorem append_block {P : Program} (w : World) (base : Nat) (t ty e : TypeId) (i : TypeInfo) (z : Value) (size bytes : Nat) (ht : P.underlying t = some (.slice e)) (hi : P.info? e = some i) (hz : i.zero = some z)
    (hsize : i.size = size) (hby : i.bytes = bytes)
    (v : Value) (n : Nat) (xs : List Value) (hown : w.ownsRow base e size v n xs)
    (a : Addr) (m c : Nat) (news : List Value) (hl : news.length = m * size) (hnews : ∀ j u, news[j]? = some u → w.cell? (a.add j) = some u) (h1 : ∀ u ∈ news, u.oneCell' = true)
    (h63 : n + m ≤ maxLen) (hbytes : (n + m) * bytes ≤ 140737488355328) (hm : m ≠ 0) {v' : Value} {w' : World} (hrun : (Builtin.append_ #[t, t] ty #[v, .slice (some a) m c]).run P w = .ok v' w') :
    ∃ k, v'.ownBlock = some k ∧ (v.ownBlock = some k ∨ k = w.heap.size) := by
  subst hsize
  subst hby
  have hsmall : n + m ≤ 9223372036854775807 := by simp only [maxLen] at h63; omega
  rcases hown.2 with ⟨rfl, rfl⟩ | ⟨g, cap, cur, rfl, hbg, hg, hnc, hcm, hcs, htake⟩
  · have hr := run_append_nil (P := P) w t ty e i z ht hi hz a m c news hl hnews (by omega) (by omega) (by have hb := hbytes; simp only [Nat.zero_add] at hb; omega)
    rw [hr] at hrun
    injection hrun with hv _
    subst hv
    exact ⟨_, rfl, .inr rfl⟩
  · by_cases hroom : n + m ≤ cap
    · have hfit : n * i.size + news.length ≤ cur.size := by rw [hl, hcs, ← Nat.add_mul]; exact Nat.mul_le_mul_right _ hroom
      have hr := run_append_room (P := P) w t ty e i ht hi g n cap cur hg a m c news hl hnews h1 hroom hfit
      rw [hr] at hrun
      injection hrun with hv _
      subst hv
      exact ⟨_, rfl, .inl rfl⟩
    · have holds : ∀ j u, xs[j]? = some u → w.cell? ((⟨g, 0, none⟩ : Addr).add j) = some u := hown.cells (g := g) rfl
      have hr := run_append_grow (P := P) w t ty e i z ht hi hz ⟨g, 0, none⟩ n cap xs hown.1 holds a m c news hl hnews (by omega) (by omega) (growslice_fits (by omega) hbytes)
      rw [hr] at hrun
      injection hrun with hv _
      subst hv
      exact ⟨_, rfl, .inr rfl⟩

/-- what a slice's element type asks of the program's table -/
structure ElemOk (P : Program) (t e : TypeId) (n : Nat) : Prop where
  ht : P.underlying t = some (.slice e)
  info : ∃ i z, P.info? e = some i ∧ i.zero = some z ∧ i.size = n ∧ z.cells.size = n ∧ i.bytes ≤ 128

theorem run_push {P : Program} {α : Type} [Dat α] {t ty e : TypeId} (hP : ElemOk P t e (Dat.n α)) {w0 : World} {O : Nat → Prop} {v : Value} {l : List α} {y : α} {es : List Value} (E' : TypeId)
    (hown : Own e w0 O v l) (hy : Dat.rd w0 (fun k => O k ∨ v.ownBlock = some k) es y) (hO : ∀ k, O k → k < w0.heap.size) (hlen : l.length ≤ 1000000000) :
    ∃ v' w', (Builtin.append_ #[t, t] ty #[v, .slice (some ⟨w0.heap.size, 0, none⟩) 1 1]).run P (w0.alloc (.cells es.toArray E')) = .ok v' w' ∧ Own e w' O v' (l ++ [y]) ∧ Chg (OwnB v) w0 w' ∧ (∃ k, v'.ownBlock = some k ∧ (v.ownBlock = some k ∨ w0.heap.size ≤ k)) := by
  obtain ⟨i, z, hi, hz, hsz, hzs, hby⟩ := hP.info
  have hlt := own_block_lt hown
  obtain ⟨xs, hx, hb, hel⟩ := id hown
  have hnl : es.length = 1 * Dat.n α := by rw [Dat.len hy]; omega
  have hpos := Dat.pos (α := α)
  have hcells : ∀ j u, es[j]? = some u → (w0.alloc (.cells es.toArray E')).cell? ((⟨w0.heap.size, 0, none⟩ : Addr).add j) = some u := by
    intro j u hj
    have e1 : (⟨w0.heap.size, 0, none⟩ : Addr).add j = ⟨w0.heap.size, j, none⟩ := by unfold Addr.add; split <;> simp_all
    rw [e1, World.cell?, heap_alloc_new]
    simpa using hj
  have hx' := hx.alloc (.cells es.toArray E')
  have hbound : (l.length + 1) * i.bytes ≤ 140737488355328 := by
    have := Nat.mul_le_mul (show l.length + 1 ≤ 1000000001 by omega) hby
    omega
  obtain ⟨v', w', hrun, hown', hgrow, hnil⟩ := run_append_own (P := P) (w0.alloc (.cells es.toArray E')) 0 t ty e i z (Dat.n α) i.bytes hP.ht hi hz hsz rfl hzs hpos v l.length xs hx'
    ⟨w0.heap.size, 0, none⟩ 1 1 es hnl hcells (Dat.one hy) (by unfold maxLen; omega) hbound (Nat.zero_le _)
  obtain ⟨kb, hkb, hkb'⟩ := append_block (P := P) (w0.alloc (.cells es.toArray E')) 0 t ty e i z (Dat.n α) i.bytes hP.ht hi hz hsz rfl v l.length xs hx'
    ⟨w0.heap.size, 0, none⟩ 1 1 es hnl hcells (Dat.one hy) (by unfold maxLen; omega) hbound (by omega) hrun
  have hkb2 : v.ownBlock = some kb ∨ w0.heap.size ≤ kb := by
    rcases hkb' with h | h
    · exact .inl h
    · right; rw [h]; simp
  have hc : Chg (OwnB v) w0 w' := ((Chg.refl (OwnB v) w0).alloc _).trans' (Chg.of_grown hgrow) (fun k _ hk => hk)
  refine ⟨v', w', hrun, ⟨xs ++ es, ?_, ?_, ?_⟩, hc, kb, hkb, hkb2⟩
  · simpa using hown'
  · intro k hk ho
    rw [hkb] at hk
    injection hk with hk
    subst hk
    rcases hkb2 with h | h
    · exact hb _ h ho
    · exact absurd (hO _ ho) (by omega)
  · have hsub : ∀ k, k < w0.heap.size → (O k ∨ v'.ownBlock = some k) → (O k ∨ v.ownBlock = some k) := by
      rintro k hk (h | h)
      · exact .inl h
      · rw [hkb] at h
        injection h with h
        subst h
        rcases hkb2 with h | h
        · exact .inr h
        · omega
    intro j x hj
    have hxl := hx.1
    rcases Nat.lt_or_ge j l.length with hjl | hjl
    · rw [List.getElem?_append_left hjl] at hj
      have h := Dat.keep (hel j x hj) hc (fun k _ hk => .inr hk) hsub
      have hle : j * Dat.n α + Dat.n α ≤ xs.length := by rw [hxl, ← Nat.succ_mul]; exact Nat.mul_le_mul_right _ hjl
      rw [List.drop_append_of_le_length (by omega), List.take_append_of_le_length (by rw [List.length_drop]; omega)]
      exact h
    · have e : j = l.length := by
        have := (List.getElem?_eq_some_iff.1 hj).1
        simp at this
        omega
      subst e
      simp at hj
      subst hj
      rw [← hxl, List.drop_left, List.take_of_length_le (by omega)]
      exact Dat.keep hy hc (fun k _ hk => .inr hk) hsub

/-- 'out = append(out, y)': y's cells have just been laid in a block of their own -/
theorem wpList_push {P : Program} {ops : Array Oper} {rest : List Oper} {o : Oper} {a : Act} {Q : Exit → Act → World → Prop} (hgd : o.guard = none) (s x : Operand) (t : TypeId)
    (ho : o.op = .call { callee := .builtin .append, args := #[s, x], argTypes := #[t, t] }) {α : Type} [Dat α] {e : TypeId} (hP : ElemOk P t e (Dat.n α)) {w0 : World} {O : Nat → Prop} {v : Value} {l : List α} {y : α} {es : List Value} {E' : TypeId} {B : Nat}
    (hs : a.eval s = v) (hx : a.eval x = .slice (some ⟨B, 0, none⟩) 1 1) (hB : B = w0.heap.size)
    (hown : Own e w0 O v l) (hy : Dat.rd w0 (fun k => O k ∨ v.ownBlock = some k) es y) (hO : ∀ k, O k → k < w0.heap.size) (hlen : l.length ≤ 1000000000)
    (h : ∀ v' w', Own e w' O v' (l ++ [y]) → Chg (OwnB v) w0 w' → (∃ k, v'.ownBlock = some k ∧ (v.ownBlock = some k ∨ w0.heap.size ≤ k)) → wpList P ops Q rest (a.put o.dst v') w') :
    wpList P ops Q (o :: rest) a (w0.alloc (.cells es.toArray E')) := by
  subst hB
  refine wpList_plain hgd fun K hK => ?_
  obtain ⟨v', w', hrun, h1, h2, h3⟩ := run_push (ty := o.type) hP E' hown hy hO hlen
  unfold Oper.wp execOp
  simp only [ho, resolve, invoke, builtin, Sem.run_bind, Sem.run_pure, Result.andThen_ok, List.map_toArray, List.map_cons, List.map_nil, hs, hx, hrun]
  exact hK _ _ (h v' w' h1 h2 h3)

theorem elemOk_of {P : Program} {t e : TypeId} {n b : Nat} {z : Value} (ht : P.underlying t = some (.slice e)) (h : (P.info? e).map (fun i => (i.zero, i.size, i.bytes)) = some (some z, n, b)) (hz : z.cells.size = n) (hb : b ≤ 128) : ElemOk P t e n := by
  obtain ⟨i, h1, h2, h3, h4⟩ := info_parts h
  exact ⟨ht, i, z, h1, h2, h3, hz, by omega⟩

/-- a step that may have changed the call's own row leaves what was there before the call -/
theorem own_step {α : Type} [Dat α] {e : TypeId} {w wr w' : World} {v : Value} {l : List α} (hc : Chg Never w wr) (hown : Own e wr (Old w.heap.size) v l) (hc' : Chg (OwnB v) wr w') : Chg Never w w' := by
  refine hc.trans' hc' ?_
  intro i hi ho
  obtain ⟨xs, _, hb, _⟩ := hown
  exact (hb i ho hi).elim
theorem old_lt {w wr : World} (hc : Chg Never w wr) : ∀ k, Old w.heap.size k → k < wr.heap.size := fun _ hk => Nat.lt_of_lt_of_le hk hc.size
end Go.Proofs.YtgabchhplmncnaaGreatDoor
namespace Go.Proofs.YtgabchhplmncnaaGreatDoor
open Go.RowKit

theorem edit_check_any (l : List Mark) (v : Value) (w : World) (h : Rdv w Never v l) :
    Calls Tryz.prog 144 #[v] w fun e w' => e = .returned (errV (scriptFault l)) ∧ Chg Never w w' := by
  obtain ⟨a, cap, rfl, h1, h2, h3⟩ := rdv_slice h
  unfold maxLen at h2
  by_cases h4 : 120 < l.length
  · go_enter Tryz.func144, Tryz.ntmps144
    go_wp2
    go_ret
    exact ⟨by simp [scriptFault, h4, errV], Chg.refl _ _⟩
  · go_enter Tryz.func144, Tryz.ntmps144
    go_wp2
    go_loopw [12] (fun i wr => ∃ k : Nat, k ≤ l.length ∧ i = .int .i64 k ∧ Hid (firstOf markFault (l.drop k) = scriptFault l) ∧ Chg Never w wr) (fun i _ => l.length - (intOf i).toNat)
    case atStart => exact ⟨0, Nat.zero_le _, rfl, by simp [Hid, scriptFault, h4], Chg.refl _ _⟩
    case round =>
      obtain ⟨k, hk, rfl, hf, hc⟩ := hrel
      by_cases hlt : k < l.length
      · obtain ⟨x, hx⟩ : ∃ x, l[k]? = some x := ⟨l[k], by simp [hlt]⟩
        obtain ⟨b, off, rfl, _, _, c0, c1, s0, s1, hxs⟩ := elems_mark h3 hx
        have c0 := hc.cellNever c0
        have c1 := hc.cellNever c1
        have hd := Lib.hid (drop_eq hx)
        clear hx h3 h
        obtain ⟨sg, tx⟩ := x
        simp only at c0 c1 s0 s1 hxs
        by_cases hsg : sg = 32 ∨ sg = 45 ∨ sg = 43
        · have hmf : markFault ⟨sg, tx⟩ = lineFault tx := by rcases hsg with e | e | e <;> subst e <;> rfl
          have HM := Lib.hid hmf
          clear hmf
          by_cases hz : lineFault tx = 0
          · rcases hsg with rfl | rfl | rfl
            all_goals
              go_wp2_with (go_at_call 124; refine (one_any _ _ hxs).mono ?_; rintro e w' ⟨rfl, rfl⟩; rw [hz, errV_zero])
              go_roundw
              case rel => exact ⟨k + 1, by omega, by go_num, by have := hf.out; rw [hd.out, firstOf, HM.out, if_pos hz] at this; exact this, hc.alloc _⟩
              case measure => simp [intOf] <;> omega
          · rcases hsg with rfl | rfl | rfl
            all_goals
              go_wp2_with (go_at_call 124; refine (one_any _ _ hxs).mono ?_; rintro e w' ⟨rfl, rfl⟩; rw [errV_pos hz])
              go_ret
              have E : errV (scriptFault l) = errV (lineFault tx) := by rw [← hf.out, hd.out, firstOf, HM.out, if_neg hz]
              exact ⟨by rw [E, errV_pos hz]; rfl, hc.alloc _⟩
        · have t1 : (sg != 32) = true := by simp; omega
          have t2 : (sg != 45) = true := by simp; omega
          have t3 : (sg != 43) = true := by simp; omega
          have hmf : markFault ⟨sg, tx⟩ = 1 := by unfold markFault; rw [if_pos (by simp; omega)]
          have HM := Lib.hid hmf
          clear hmf hsg
          go_wp2_with fail
          go_ret
          have E : errV (scriptFault l) = errV 1 := by rw [← hf.out, hd.out, firstOf, HM.out, if_neg (by decide)]
          exact ⟨by rw [E]; rfl, hc.alloc _⟩
      · go_wp2
        go_ret
        exact ⟨by have := hf.out; rw [List.drop_of_length_le (by omega), firstOf] at this; rw [← this]; rfl, hc⟩

theorem elemOk_str : ElemOk Tryz.prog 84 9 1 := elemOk_of Tryz.underlying84 (z := .string ⟨#[]⟩) (b := 16) (by kernel_rfl) rfl (by decide)
theorem those_take {l : List Mark} {no : Int} {k : Nat} {x : Mark} (hx : l[k]? = some x) : those (l.take (k + 1)) no = if x.sign = no then those (l.take k) no else those (l.take k) no ++ [x.text] := by
  rw [List.take_add_one, hx]
  unfold those
  by_cases h : x.sign = no <;> simp [List.filter_append, h]
theorem those_le (l : List Mark) (no : Int) : (those l no).length ≤ l.length := by
  unfold those
  rw [List.length_map]
  exact List.length_filter_le _ _
theorem scriptFault_len {l : List Mark} (h : scriptFault l = 0) : l.length ≤ 120 := by
  unfold scriptFault at h
  by_cases h1 : 120 < l.length
  · simp [h1] at h
  · omega

end Go.Proofs.YtgabchhplmncnaaGreatDoor
namespace Go.Proofs.YtgabchhplmncnaaGreatDoor
open Go.RowKit

end Go.Proofs.YtgabchhplmncnaaGreatDoor
namespace Go.Proofs.YtgabchhplmncnaaGreatDoor
open Go.RowKit

theorem Fil.keep {T : Nat} {wr w' : World} {l m : List ByteArray} {x y : Int} {O : Nat → Prop} (h : Fil T wr l m x y) (hc : Chg O wr w') (hT : ¬ O T) : Fil T w' l m x y := by
  obtain ⟨c, h1, h2⟩ := h
  refine ⟨c, ?_, h2⟩
  rw [hc.block T (Array.getElem?_eq_some_iff.1 h1).1 hT]
  exact h1
/-! ### a script of lines that may be, may be -/
theorem scriptFault_zero {l : List Mark} : scriptFault l = 0 ↔ l.length ≤ 120 ∧ ∀ x ∈ l, markFault x = 0 := by
  unfold scriptFault
  by_cases h : 120 < l.length
  · simp [h]; omega
  · simp only [if_neg h, firstOf_zero]
    exact ⟨fun h' => ⟨by omega, h'⟩, fun h' => h'.2⟩
end Go.Proofs.YtgabchhplmncnaaGreatDoor
namespace Go.Proofs.YtgabchhplmncnaaGreatDoor
open Go.RowKit

theorem kept_any (sg : Int) (tx : ByteArray) (w : World) :
    Calls Tryz.prog 200 #[.agg #[.int .u8 sg, .string tx]] w fun e w' => e = .returned (.bool (sg == 32)) ∧ Chg Never w w' := by
  go_enter Tryz.func200, Tryz.ntmps200
  go_wp2
  go_ret
  exact ⟨rfl, by repeat (first | exact Chg.refl _ _ | apply Chg.alloc)⟩
theorem changed_any (sg : Int) (tx : ByteArray) (w : World) :
    Calls Tryz.prog 188 #[.agg #[.int .u8 sg, .string tx]] w fun e w' => e = .returned (.bool (!(sg == 32))) ∧ Chg Never w w' := by
  go_enter Tryz.func188, Tryz.ntmps188
  go_wp2_with (go_at_call 200; refine (kept_any _ _ _).mono ?_; rintro e w1 ⟨rfl, hc1⟩)
  go_ret
  exact ⟨rfl, ((Chg.refl _ _).alloc _).trans hc1⟩

theorem oldN_take {l : List Mark} {k : Nat} {x : Mark} (hx : l[k]? = some x) : oldN (l.take (k + 1)) = oldN (l.take k) + (if x.sign = 43 then 0 else 1) := by
  unfold oldN
  rw [those_take hx]
  by_cases h : x.sign = 43 <;> simp [h]
theorem newN_take {l : List Mark} {k : Nat} {x : Mark} (hx : l[k]? = some x) : newN (l.take (k + 1)) = newN (l.take k) + (if x.sign = 45 then 0 else 1) := by
  unfold newN
  rw [those_take hx]
  by_cases h : x.sign = 45 <;> simp [h]
theorem oldN_le (l : List Mark) : oldN l ≤ l.length := those_le _ _
theorem newN_le (l : List Mark) : newN l ≤ l.length := those_le _ _

theorem size_any (h : Hunk) (mv : Value) (w : World) (hm : Rdv w Never mv h.marks) :
    Calls Tryz.prog 109 #[.agg #[.int .i64 h.old, .int .i64 h.new, mv]] w fun e w' => e = .returned (.tuple #[.int .i64 (oldN h.marks), .int .i64 (newN h.marks)]) ∧ Chg Never w w' := by
  obtain ⟨o, n, l⟩ := h
  simp only at hm ⊢
  obtain ⟨a, cap, rfl, h1, h2, h3⟩ := rdv_slice hm
  unfold maxLen at h2
  go_enter Tryz.func109, Tryz.ntmps109
  go_wp2
  go_loopw [2, 3, 9] (fun s2 s3 i wr => ∃ k : Nat, k ≤ l.length ∧ i = .int .i64 k ∧ s2 = .int .i64 (oldN (l.take k)) ∧ s3 = .int .i64 (newN (l.take k)) ∧ Chg Never w wr) (fun _ _ i _ => l.length - (intOf i).toNat)
  case atStart => exact ⟨0, Nat.zero_le _, rfl, rfl, rfl, (Chg.refl _ _).alloc _⟩
  case round =>
    obtain ⟨k, hk, rfl, rfl, rfl, hc⟩ := hrel
    by_cases hlt : k < l.length
    · obtain ⟨x, hx⟩ : ∃ x, l[k]? = some x := ⟨l[k], by simp [hlt]⟩
      obtain ⟨b, off, rfl, _, _, c0, c1, s0, s1, hxs⟩ := elems_mark h3 hx
      have c0 := hc.cellNever c0
      have c1 := hc.cellNever c1
      have HO := Lib.hid (oldN_take hx)
      have HN := Lib.hid (newN_take hx)
      have l1 : oldN (l.take k) ≤ k := Nat.le_trans (oldN_le _) (List.length_take_le _ _)
      have l2 : newN (l.take k) ≤ k := Nat.le_trans (newN_le _) (List.length_take_le _ _)
      clear hx h3 hm
      obtain ⟨sg, tx⟩ := x
      simp only at c0 c1 s0 s1 hxs
      by_cases h43 : sg = 43
      · subst h43
        go_wp2
        go_roundw
        case rel => exact ⟨k + 1, by omega, by go_num, by rw [HO.out]; rfl, by rw [HN.out]; go_num, hc.alloc _⟩
        case measure => simp [intOf] <;> omega
      · have t1 : (sg != 43) = true := by simp [h43]
        by_cases h45 : sg = 45
        · subst h45
          go_wp2
          go_roundw
          case rel => exact ⟨k + 1, by omega, by go_num, by rw [HO.out]; go_num, by rw [HN.out]; rfl, hc.alloc _⟩
          case measure => simp [intOf] <;> omega
        · have t2 : (sg != 45) = true := by simp [h45]
          have H43 := Lib.hid h43
          have H45 := Lib.hid h45
          clear h43 h45
          go_wp2
          go_roundw
          case rel => exact ⟨k + 1, by omega, by go_num, by rw [HO.out, if_neg H43.out]; go_num, by rw [HN.out, if_neg H45.out]; go_num, hc.alloc _⟩
          case measure => simp [intOf] <;> omega
    · go_wp2
      go_ret2
      exact ⟨by rw [List.take_of_length_le (by omega)]; rfl, hc⟩

theorem hasChange_take {l : List Mark} {k : Nat} {x : Mark} (hx : l[k]? = some x) (h : hasChange (l.take k) = false) : hasChange (l.take (k + 1)) = (!(x.sign == 32)) := by
  rw [List.take_add_one, hx]
  unfold hasChange at *
  rw [List.any_append, h]
  by_cases h1 : x.sign = 32 <;> simp [h1]
theorem hasChange_of {l : List Mark} {k : Nat} (h : hasChange (l.take k) = true) : hasChange l = true := by
  unfold hasChange at *
  rw [List.any_eq_true] at *
  obtain ⟨x, hx, hp⟩ := h
  exact ⟨x, List.mem_of_mem_take hx, hp⟩

def IdxPost (l : List Mark) (w : World) (e : Ending) (w' : World) : Prop := ∃ n : Int, e = .returned (.int .i64 n) ∧ -1 ≤ n ∧ decide (0 ≤ n) = hasChange l ∧ Chg Never w w'
theorem index_changed (l : List Mark) (v : Value) (w : World) (h : Rdv w Never v l) :
    Calls Tryz.prog 205 #[v, .func (.func 188) #[] #[]] w (IdxPost l w) := by
  obtain ⟨a, cap, rfl, h1, h2, h3⟩ := rdv_slice h
  unfold maxLen at h2
  go_enter Tryz.func205, Tryz.ntmps205
  go_wp2_with fail
  go_loopw [8] (fun i wr => ∃ k : Nat, k ≤ l.length ∧ i = .int .i64 k ∧ Hid (hasChange (l.take k) = false) ∧ Chg Never w wr) (fun i _ => l.length - (intOf i).toNat)
  case atStart => exact ⟨0, Nat.zero_le _, rfl, rfl, Chg.refl _ _⟩
  case round =>
    obtain ⟨k, hk, rfl, hf, hc⟩ := hrel
    by_cases hlt : k < l.length
    · obtain ⟨x, hx⟩ : ∃ x, l[k]? = some x := ⟨l[k], by simp [hlt]⟩
      obtain ⟨b, off, rfl, _, _, c0, c1, s0, s1, hxs⟩ := elems_mark h3 hx
      have c0 := hc.cellNever c0
      have c1 := hc.cellNever c1
      have HT := Lib.hid (hasChange_take hx hf.out)
      clear hx h3 h
      obtain ⟨sg, tx⟩ := x
      simp only at c0 c1 s0 s1 hxs
      by_cases h32 : sg = 32
      · subst h32
        go_wp2_with (go_at_call 188; refine (changed_any _ _ _).mono ?_; rintro e w2 ⟨rfl, hc2⟩)
        go_roundw
        case rel => exact ⟨k + 1, by omega, by go_num, by rw [Hid, HT.out]; rfl, hc.trans hc2⟩
        case measure => simp [intOf] <;> omega
      · have t1 : (sg == 32) = false := by simp [h32]
        go_wp2_with (go_at_call 188; refine (changed_any _ _ _).mono ?_; rintro e w2 ⟨rfl, hc2⟩)
        go_ret
        have E : hasChange l = true := hasChange_of (k := k + 1) (by rw [HT.out]; simp [h32])
        exact ⟨k, rfl, by omega, by rw [E]; simp, hc.trans hc2⟩
    · go_wp2_with fail
      go_ret
      have E : hasChange l = false := by have := hf.out; rwa [List.take_of_length_le (by omega)] at this
      exact ⟨-1, rfl, by omega, by rw [E]; rfl, hc⟩

theorem contains_changed (l : List Mark) (v : Value) (w : World) (h : Rdv w Never v l) :
    Calls Tryz.prog 187 #[v, .func (.func 188) #[] #[]] w fun e w' => e = .returned (.bool (hasChange l)) ∧ Chg Never w w' := by
  go_enter Tryz.func187, Tryz.ntmps187
  go_wp2_with fail
  refine (index_changed l _ _ h).mono ?_
  rintro e w1 ⟨n, rfl, hn, hd, hc⟩
  have HD := Lib.hid hd
  clear hd
  go_wp2_with fail
  go_ret
  exact ⟨by rw [← HD.out]; rfl, hc⟩
end Go.Proofs.YtgabchhplmncnaaGreatDoor
namespace Go.Proofs.YtgabchhplmncnaaGreatDoor
open Go.RowKit

/-- a struct of three cells that has been boxed, and is still there -/
theorem box3 {w w1 : World} {x y z : Value} {t : TypeId} (hc : Chg Never (w.alloc (.cells #[x, y, z] t)) w1) :
    w1.cell? ⟨w.heap.size, 0, none⟩ = some x ∧ w1.cell? ⟨w.heap.size, 1, none⟩ = some y ∧ w1.cell? ⟨w.heap.size, 2, none⟩ = some z := by
  refine ⟨hc.cellNever ?_, hc.cellNever ?_, hc.cellNever ?_⟩ <;> (simp only [World.cell?]; rw [heap_alloc_new]; rfl)


set_option maxHeartbeats 800000 in
theorem one_script (o n : Int) (l : List Mark) (mv : Value) (fin more : Int) (w : World) (hm : Rdv w Never mv l) (_f0 : -100000 ≤ fin) (_f1 : fin ≤ 100000) (_m0 : -100000 ≤ more) (_m1 : more ≤ 100000)
    (HZ : Hid (scriptFault l ≠ 0)) :
    Calls Tryz.prog 161 #[.agg #[.int .i64 o, .int .i64 n, mv], .int .i64 fin, .int .i64 more] w fun e w' => e = .returned (errV (oneFault ⟨o, n, l⟩ fin more)) ∧ Chg Never w w' := by
  go_enter Tryz.func161, Tryz.ntmps161
  go_wp2_with fail
  refine (edit_check_any l _ _ (hm.never ((Chg.refl _ _).alloc _))).mono ?_
  rintro e w1 ⟨rfl, hc1⟩
  obtain ⟨x0, x1, x2⟩ := box3 hc1
  have hw : Chg Never w w1 := ((Chg.refl _ _).alloc _).trans hc1
  rw [errV_pos HZ.out]
  go_wp2_with fail
  go_ret
  exact ⟨by unfold oneFault; rw [if_pos HZ.out, errV_pos HZ.out]; rfl, hw⟩

set_option maxHeartbeats 800000 in
theorem one_none (o n : Int) (l : List Mark) (mv : Value) (fin more : Int) (w : World) (hm : Rdv w Never mv l) (_f0 : -100000 ≤ fin) (_f1 : fin ≤ 100000) (_m0 : -100000 ≤ more) (_m1 : more ≤ 100000)
    (HZ : Hid (scriptFault l = 0)) (HC : Hid (hasChange l = false)) :
    Calls Tryz.prog 161 #[.agg #[.int .i64 o, .int .i64 n, mv], .int .i64 fin, .int .i64 more] w fun e w' => e = .returned (errV (oneFault ⟨o, n, l⟩ fin more)) ∧ Chg Never w w' := by
  go_enter Tryz.func161, Tryz.ntmps161
  go_wp2_with fail
  refine (edit_check_any l _ _ (hm.never ((Chg.refl _ _).alloc _))).mono ?_
  rintro e w1 ⟨rfl, hc1⟩
  obtain ⟨x0, x1, x2⟩ := box3 hc1
  have hw : Chg Never w w1 := ((Chg.refl _ _).alloc _).trans hc1
  rw [HZ.out, errV_zero]
  go_wp2_with fail
  refine (contains_changed l _ _ (hm.never hw)).mono ?_
  rintro e w2 ⟨rfl, hc2⟩
  obtain ⟨x0, x1, x2⟩ := box3 (hc1.trans hc2)
  have hw := hw.trans hc2
  rw [HC.out]
  go_wp2_with fail
  go_ret
  exact ⟨by unfold oneFault; rw [if_neg (fun h => h HZ.out), if_pos HC.out]; rfl, hw⟩

set_option maxHeartbeats 800000 in
theorem one_range (o n : Int) (l : List Mark) (mv : Value) (fin more : Int) (w : World) (hm : Rdv w Never mv l) (_f0 : -100000 ≤ fin) (_f1 : fin ≤ 100000) (_m0 : -100000 ≤ more) (_m1 : more ≤ 100000)
    (HZ : Hid (scriptFault l = 0)) (HC : Hid (hasChange l = true)) (HR : Hid (o < 0 ∨ 60 < o ∨ n < 0 ∨ 60 < n ∨ 60 < o + oldN l ∨ 60 < n + newN l)) :
    Calls Tryz.prog 161 #[.agg #[.int .i64 o, .int .i64 n, mv], .int .i64 fin, .int .i64 more] w fun e w' => e = .returned (errV (oneFault ⟨o, n, l⟩ fin more)) ∧ Chg Never w w' := by
  have E : oneFault ⟨o, n, l⟩ fin more = 1 := by
    unfold oneFault; rw [if_neg (fun h => h HZ.out), if_neg (by rw [HC.out]; decide), if_pos HR.out]
  rw [E]
  have hl := scriptFault_len HZ.out
  have l1 := oldN_le l
  have l2 := newN_le l
  clear E
  by_cases a1 : o < 0
  · go_enter Tryz.func161, Tryz.ntmps161
    go_wp2_with fail
    refine (edit_check_any l _ _ (hm.never ((Chg.refl _ _).alloc _))).mono ?_
    rintro e w1 ⟨rfl, hc1⟩
    obtain ⟨x0, x1, x2⟩ := box3 hc1
    have hw : Chg Never w w1 := ((Chg.refl _ _).alloc _).trans hc1
    rw [HZ.out, errV_zero]
    go_wp2_with fail
    refine (contains_changed l _ _ (hm.never hw)).mono ?_
    rintro e w2 ⟨rfl, hc2⟩
    obtain ⟨x0, x1, x2⟩ := box3 (hc1.trans hc2)
    have hw := hw.trans hc2
    rw [HC.out]
    go_wp2_with fail
    refine (size_any ⟨o, n, l⟩ mv _ (hm.never hw)).mono ?_
    rintro e w3 ⟨rfl, hc3⟩
    obtain ⟨x0, x1, x2⟩ := box3 ((hc1.trans hc2).trans hc3)
    have hw := hw.trans hc3
    clear hc1 hc2 hc3
    go_wp2_with fail
    go_ret
    exact ⟨rfl, hw⟩
  · by_cases a2 : 60 < o
    · go_enter Tryz.func161, Tryz.ntmps161
      go_wp2_with fail
      refine (edit_check_any l _ _ (hm.never ((Chg.refl _ _).alloc _))).mono ?_
      rintro e w1 ⟨rfl, hc1⟩
      obtain ⟨x0, x1, x2⟩ := box3 hc1
      have hw : Chg Never w w1 := ((Chg.refl _ _).alloc _).trans hc1
      rw [HZ.out, errV_zero]
      go_wp2_with fail
      refine (contains_changed l _ _ (hm.never hw)).mono ?_
      rintro e w2 ⟨rfl, hc2⟩
      obtain ⟨x0, x1, x2⟩ := box3 (hc1.trans hc2)
      have hw := hw.trans hc2
      rw [HC.out]
      go_wp2_with fail
      refine (size_any ⟨o, n, l⟩ mv _ (hm.never hw)).mono ?_
      rintro e w3 ⟨rfl, hc3⟩
      obtain ⟨x0, x1, x2⟩ := box3 ((hc1.trans hc2).trans hc3)
      have hw := hw.trans hc3
      clear hc1 hc2 hc3
      go_wp2_with fail
      go_ret
      exact ⟨rfl, hw⟩
    · by_cases a3 : n < 0
      · go_enter Tryz.func161, Tryz.ntmps161
        go_wp2_with fail
        refine (edit_check_any l _ _ (hm.never ((Chg.refl _ _).alloc _))).mono ?_
        rintro e w1 ⟨rfl, hc1⟩
        obtain ⟨x0, x1, x2⟩ := box3 hc1
        have hw : Chg Never w w1 := ((Chg.refl _ _).alloc _).trans hc1
        rw [HZ.out, errV_zero]
        go_wp2_with fail
        refine (contains_changed l _ _ (hm.never hw)).mono ?_
        rintro e w2 ⟨rfl, hc2⟩
        obtain ⟨x0, x1, x2⟩ := box3 (hc1.trans hc2)
        have hw := hw.trans hc2
        rw [HC.out]
        go_wp2_with fail
        refine (size_any ⟨o, n, l⟩ mv _ (hm.never hw)).mono ?_
        rintro e w3 ⟨rfl, hc3⟩
        obtain ⟨x0, x1, x2⟩ := box3 ((hc1.trans hc2).trans hc3)
        have hw := hw.trans hc3
        clear hc1 hc2 hc3
        go_wp2_with fail
        go_ret
        exact ⟨rfl, hw⟩
      · by_cases a4 : 60 < n
        · go_enter Tryz.func161, Tryz.ntmps161
          go_wp2_with fail
          refine (edit_check_any l _ _ (hm.never ((Chg.refl _ _).alloc _))).mono ?_
          rintro e w1 ⟨rfl, hc1⟩
          obtain ⟨x0, x1, x2⟩ := box3 hc1
          have hw : Chg Never w w1 := ((Chg.refl _ _).alloc _).trans hc1
          rw [HZ.out, errV_zero]
          go_wp2_with fail
          refine (contains_changed l _ _ (hm.never hw)).mono ?_
          rintro e w2 ⟨rfl, hc2⟩
          obtain ⟨x0, x1, x2⟩ := box3 (hc1.trans hc2)
          have hw := hw.trans hc2
          rw [HC.out]
          go_wp2_with fail
          refine (size_any ⟨o, n, l⟩ mv _ (hm.never hw)).mono ?_
          rintro e w3 ⟨rfl, hc3⟩
          obtain ⟨x0, x1, x2⟩ := box3 ((hc1.trans hc2).trans hc3)
          have hw := hw.trans hc3
          clear hc1 hc2 hc3
          go_wp2_with fail
          go_ret
          exact ⟨rfl, hw⟩
        · by_cases a5 : 60 < o + oldN l
          · go_enter Tryz.func161, Tryz.ntmps161
            go_wp2_with fail
            refine (edit_check_any l _ _ (hm.never ((Chg.refl _ _).alloc _))).mono ?_
            rintro e w1 ⟨rfl, hc1⟩
            obtain ⟨x0, x1, x2⟩ := box3 hc1
            have hw : Chg Never w w1 := ((Chg.refl _ _).alloc _).trans hc1
            rw [HZ.out, errV_zero]
            go_wp2_with fail
            refine (contains_changed l _ _ (hm.never hw)).mono ?_
            rintro e w2 ⟨rfl, hc2⟩
            obtain ⟨x0, x1, x2⟩ := box3 (hc1.trans hc2)
            have hw := hw.trans hc2
            rw [HC.out]
            go_wp2_with fail
            refine (size_any ⟨o, n, l⟩ mv _ (hm.never hw)).mono ?_
            rintro e w3 ⟨rfl, hc3⟩
            obtain ⟨x0, x1, x2⟩ := box3 ((hc1.trans hc2).trans hc3)
            have hw := hw.trans hc3
            clear hc1 hc2 hc3
            go_wp2_with fail
            go_ret
            exact ⟨rfl, hw⟩
          · have a6 : 60 < n + newN l := by have := HR.out; omega
            go_enter Tryz.func161, Tryz.ntmps161
            go_wp2_with fail
            refine (edit_check_any l _ _ (hm.never ((Chg.refl _ _).alloc _))).mono ?_
            rintro e w1 ⟨rfl, hc1⟩
            obtain ⟨x0, x1, x2⟩ := box3 hc1
            have hw : Chg Never w w1 := ((Chg.refl _ _).alloc _).trans hc1
            rw [HZ.out, errV_zero]
            go_wp2_with fail
            refine (contains_changed l _ _ (hm.never hw)).mono ?_
            rintro e w2 ⟨rfl, hc2⟩
            obtain ⟨x0, x1, x2⟩ := box3 (hc1.trans hc2)
            have hw := hw.trans hc2
            rw [HC.out]
            go_wp2_with fail
            refine (size_any ⟨o, n, l⟩ mv _ (hm.never hw)).mono ?_
            rintro e w3 ⟨rfl, hc3⟩
            obtain ⟨x0, x1, x2⟩ := box3 ((hc1.trans hc2).trans hc3)
            have hw := hw.trans hc3
            clear hc1 hc2 hc3
            go_wp2_with fail
            go_ret
            exact ⟨rfl, hw⟩

set_option maxHeartbeats 800000 in
theorem one_rest (o n : Int) (l : List Mark) (mv : Value) (fin more : Int) (w : World) (hm : Rdv w Never mv l) (_f0 : -100000 ≤ fin) (_f1 : fin ≤ 100000) (m0 : -100000 ≤ more) (m1 : more ≤ 100000)
    (HZ : Hid (scriptFault l = 0)) (HC : Hid (hasChange l = true)) (HR : ¬ (o < 0 ∨ 60 < o ∨ n < 0 ∨ 60 < n ∨ 60 < o + oldN l ∨ 60 < n + newN l)) :
    Calls Tryz.prog 161 #[.agg #[.int .i64 o, .int .i64 n, mv], .int .i64 fin, .int .i64 more] w fun e w' => e = .returned (errV (oneFault ⟨o, n, l⟩ fin more)) ∧ Chg Never w w' := by
  have E : oneFault ⟨o, n, l⟩ fin more = if o < fin ∨ n ≠ o + more then 2 else 0 := by
    unfold oneFault; rw [if_neg (fun h => h HZ.out), if_neg (by rw [HC.out]; decide), if_neg HR]
  rw [E]
  have hl := scriptFault_len HZ.out
  have l1 := oldN_le l
  have l2 := newN_le l
  clear E
  have a1 : 0 ≤ o := by omega
  have a2 : o ≤ 60 := by omega
  have a3 : 0 ≤ n := by omega
  have a4 : n ≤ 60 := by omega
  have a5 : o + oldN l ≤ 60 := by omega
  have a6 : n + newN l ≤ 60 := by omega
  clear HR
  by_cases b1 : o < fin
  · rw [if_pos (.inl b1)]
    go_enter Tryz.func161, Tryz.ntmps161
    go_wp2_with fail
    refine (edit_check_any l _ _ (hm.never ((Chg.refl _ _).alloc _))).mono ?_
    rintro e w1 ⟨rfl, hc1⟩
    obtain ⟨x0, x1, x2⟩ := box3 hc1
    have hw : Chg Never w w1 := ((Chg.refl _ _).alloc _).trans hc1
    rw [HZ.out, errV_zero]
    go_wp2_with fail
    refine (contains_changed l _ _ (hm.never hw)).mono ?_
    rintro e w2 ⟨rfl, hc2⟩
    obtain ⟨x0, x1, x2⟩ := box3 (hc1.trans hc2)
    have hw := hw.trans hc2
    rw [HC.out]
    go_wp2_with fail
    refine (size_any ⟨o, n, l⟩ mv _ (hm.never hw)).mono ?_
    rintro e w3 ⟨rfl, hc3⟩
    obtain ⟨x0, x1, x2⟩ := box3 ((hc1.trans hc2).trans hc3)
    have hw := hw.trans hc3
    clear hc1 hc2 hc3
    go_wp2_with fail
    go_ret
    exact ⟨rfl, hw⟩
  · by_cases b2 : n = o + more
    · rw [if_neg (by omega)]
      have t1 : (n != o + more) = false := by simp [b2]
      clear b2
      go_enter Tryz.func161, Tryz.ntmps161
      go_wp2_with fail
      refine (edit_check_any l _ _ (hm.never ((Chg.refl _ _).alloc _))).mono ?_
      rintro e w1 ⟨rfl, hc1⟩
      obtain ⟨x0, x1, x2⟩ := box3 hc1
      have hw : Chg Never w w1 := ((Chg.refl _ _).alloc _).trans hc1
      rw [HZ.out, errV_zero]
      go_wp2_with fail
      refine (contains_changed l _ _ (hm.never hw)).mono ?_
      rintro e w2 ⟨rfl, hc2⟩
      obtain ⟨x0, x1, x2⟩ := box3 (hc1.trans hc2)
      have hw := hw.trans hc2
      rw [HC.out]
      go_wp2_with fail
      refine (size_any ⟨o, n, l⟩ mv _ (hm.never hw)).mono ?_
      rintro e w3 ⟨rfl, hc3⟩
      obtain ⟨x0, x1, x2⟩ := box3 ((hc1.trans hc2).trans hc3)
      have hw := hw.trans hc3
      clear hc1 hc2 hc3
      go_wp2_with fail
      go_ret
      exact ⟨rfl, hw⟩
    · rw [if_pos (.inr b2)]
      have t1 : (n != o + more) = true := by simp [b2]
      clear b2
      go_enter Tryz.func161, Tryz.ntmps161
      go_wp2_with fail
      refine (edit_check_any l _ _ (hm.never ((Chg.refl _ _).alloc _))).mono ?_
      rintro e w1 ⟨rfl, hc1⟩
      obtain ⟨x0, x1, x2⟩ := box3 hc1
      have hw : Chg Never w w1 := ((Chg.refl _ _).alloc _).trans hc1
      rw [HZ.out, errV_zero]
      go_wp2_with fail
      refine (contains_changed l _ _ (hm.never hw)).mono ?_
      rintro e w2 ⟨rfl, hc2⟩
      obtain ⟨x0, x1, x2⟩ := box3 (hc1.trans hc2)
      have hw := hw.trans hc2
      rw [HC.out]
      go_wp2_with fail
      refine (size_any ⟨o, n, l⟩ mv _ (hm.never hw)).mono ?_
      rintro e w3 ⟨rfl, hc3⟩
      obtain ⟨x0, x1, x2⟩ := box3 ((hc1.trans hc2).trans hc3)
      have hw := hw.trans hc3
      clear hc1 hc2 hc3
      go_wp2_with fail
      go_ret
      exact ⟨rfl, hw⟩

theorem one_hunk (h : Hunk) (mv : Value) (fin more : Int) (w : World) (hm : Rdv w Never mv h.marks) (f0 : -100000 ≤ fin) (f1 : fin ≤ 100000) (m0 : -100000 ≤ more) (m1 : more ≤ 100000) :
    Calls Tryz.prog 161 #[.agg #[.int .i64 h.old, .int .i64 h.new, mv], .int .i64 fin, .int .i64 more] w fun e w' => e = .returned (errV (oneFault h fin more)) ∧ Chg Never w w' := by
  obtain ⟨o, n, l⟩ := h
  by_cases hz : scriptFault l = 0
  · by_cases hc : hasChange l = true
    · by_cases hr : o < 0 ∨ 60 < o ∨ n < 0 ∨ 60 < n ∨ 60 < o + oldN l ∨ 60 < n + newN l
      · exact one_range o n l mv fin more w hm f0 f1 m0 m1 hz hc hr
      · exact one_rest o n l mv fin more w hm f0 f1 m0 m1 hz hc hr
    · exact one_none o n l mv fin more w hm f0 f1 m0 m1 hz (by simpa [Hid] using hc)
  · exact one_script o n l mv fin more w hm f0 f1 m0 m1 hz
end Go.Proofs.YtgabchhplmncnaaGreatDoor
namespace Go.Proofs.YtgabchhplmncnaaGreatDoor
open Go.RowKit

theorem elems_hunk {w : World} {O : Nat → Prop} {a : Option Addr} {l : List Hunk} (h : Elems w O a l) {i : Nat} {x : Hunk} (hx : l[i]? = some x) :
    ∃ b off mv, a = some ⟨b, off, none⟩ ∧ ¬ O b ∧ b < w.heap.size ∧ w.cell? ⟨b, off + i * 3, none⟩ = some (.int .i64 x.old) ∧ w.cell? ⟨b, off + i * 3 + 1, none⟩ = some (.int .i64 x.new) ∧ w.cell? ⟨b, off + i * 3 + 2, none⟩ = some mv ∧ Rdv w O mv x.marks := by
  obtain ⟨b, off, es, ha, hb, hcs, mv, rfl, hs⟩ := h i x hx
  refine ⟨b, off, mv, ha, hb, hcs.lt (by simp), ?_, ?_, ?_, hs⟩
  · simpa [Dat.n] using hcs 0 _ rfl
  · simpa [Dat.n] using hcs 1 _ rfl
  · simpa [Dat.n] using hcs 2 _ rfl

theorem hunksGo_drop {l : List Hunk} {k : Nat} {x : Hunk} {i : Nat} {fin more : Int} (hx : l[k]? = some x) :
    hunksGo i fin more (l.drop k) = if oneFault x fin more = 0 then hunksGo (i + 1) (x.old + oldN x.marks) (more + newN x.marks - oldN x.marks) (l.drop (k + 1)) else (i, oneFault x fin more) := by
  rw [drop_eq hx, hunksGo]
theorem oneFault_zero {h : Hunk} {fin more : Int} (e : oneFault h fin more = 0) : scriptFault h.marks = 0 ∧ hasChange h.marks = true ∧ 0 ≤ h.old ∧ 0 ≤ h.new ∧ h.old + oldN h.marks ≤ 60 ∧ h.new + newN h.marks ≤ 60 ∧ fin ≤ h.old ∧ h.new = h.old + more := by
  unfold oneFault at e
  by_cases h1 : scriptFault h.marks ≠ 0
  · rw [if_pos h1] at e; exact absurd e h1
  · rw [if_neg h1] at e
    by_cases h2 : hasChange h.marks = false
    · rw [if_pos h2] at e; simp at e
    · rw [if_neg h2] at e
      by_cases h3 : h.old < 0 ∨ 60 < h.old ∨ h.new < 0 ∨ 60 < h.new ∨ 60 < h.old + oldN h.marks ∨ 60 < h.new + newN h.marks
      · rw [if_pos h3] at e; simp at e
      · rw [if_neg h3] at e
        by_cases h4 : h.old < fin ∨ h.new ≠ h.old + more
        · rw [if_pos h4] at e; simp at e
        · refine ⟨by simpa using h1, by simpa using h2, ?_⟩
          omega

set_option maxHeartbeats 800000 in
theorem hunk_check_any (l : List Hunk) (v : Value) (w : World) (h : Rdv w Never v l) :
    Calls Tryz.prog 125 #[v] w fun e w' => e = .returned (.tuple #[.int .i64 (hunksFault l).1, errV (hunksFault l).2]) ∧ Chg Never w w' := by
  obtain ⟨a, cap, rfl, h1, h2, h3⟩ := rdv_slice h
  unfold maxLen at h2
  by_cases h4 : 60 < l.length
  · have E : hunksFault l = (0, 3) := if_pos h4
    rw [E]
    clear E
    go_enter Tryz.func125, Tryz.ntmps125
    go_wp2_with fail
    go_ret2
    exact ⟨rfl, Chg.refl _ _⟩
  · have HE : Hid (hunksFault l = hunksGo 0 0 0 l) := if_neg h4
    go_enter Tryz.func125, Tryz.ntmps125
    go_wp2_with fail
    go_loopw [4, 5, 17] (fun s4 s5 i wr => ∃ (k : Nat) (fin more : Int), k ≤ l.length ∧ i = .int .i64 k ∧ s4 = .int .i64 fin ∧ s5 = .int .i64 more ∧ 0 ≤ fin ∧ fin ≤ 60 ∧ -60 ≤ more ∧ more ≤ 60 ∧ Hid (hunksGo k fin more (l.drop k) = hunksFault l) ∧ Chg Never w wr) (fun _ _ i _ => l.length - (intOf i).toNat)
    case atStart => exact ⟨0, 0, 0, Nat.zero_le _, rfl, rfl, rfl, by omega, by omega, by omega, by omega, HE.out.symm, Chg.refl _ _⟩
    case round =>
      obtain ⟨k, fin, more, hk, rfl, rfl, rfl, f0, f1, m0, m1, hf, hc⟩ := hrel
      by_cases hlt : k < l.length
      · obtain ⟨x, hx⟩ : ∃ x, l[k]? = some x := ⟨l[k], by simp [hlt]⟩
        obtain ⟨b, off, mv, rfl, _, _, c0, c1, c2, hmv⟩ := elems_hunk h3 hx
        have c0 := hc.cellNever c0
        have c1 := hc.cellNever c1
        have c2 := hc.cellNever c2
        have hmv := hmv.never hc
        obtain ⟨ma, mcap, rfl, _, _, _⟩ := rdv_slice hmv
        have HG := Lib.hid (hunksGo_drop (i := k) (fin := fin) (more := more) hx)
        clear hx h3 h
        by_cases hz : oneFault x fin more = 0
        · have hzz := oneFault_zero hz
          have HZ := Lib.hid hz
          obtain ⟨z1, z2, z3, z4, z5, z6, z7, z8⟩ := hzz
          have Z8 := Lib.hid z8
          have l1 := oldN_le x.marks
          have l2 := newN_le x.marks
          clear hz z1 z2 z8
          go_wp2_with fail
          refine (one_hunk x _ fin more _ (hmv.never ((Chg.refl _ _).alloc _)) (by omega) (by omega) (by omega) (by omega)).mono ?_
          rintro e w1 ⟨rfl, hc1⟩
          obtain ⟨x0, x1, x2⟩ := box3 hc1
          have hmv1 := (hmv.never ((Chg.refl _ _).alloc _)).never hc1
          rw [HZ.out, errV_zero]
          go_wp2_with fail
          refine (size_any x _ _ hmv1).mono ?_
          rintro e w2 ⟨rfl, hc2⟩
          obtain ⟨x0, x1, x2⟩ := box3 (hc1.trans hc2)
          have hw := (hc.alloc _).trans (hc1.trans hc2)
          clear hc1 hc2
          go_wp2_with fail
          go_roundw
          case rel => exact ⟨k + 1, x.old + oldN x.marks, more + newN x.marks - oldN x.marks, by omega, by go_num, rfl, rfl, by omega, by omega, by have := Z8.out; omega, by have := Z8.out; omega, by have := hf.out; rw [HG.out, if_pos HZ.out] at this; exact this, hw⟩
          case measure => simp [intOf] <;> omega
        · have HZ := Lib.hid hz
          clear hz
          go_wp2_with fail
          refine (one_hunk x _ fin more _ (hmv.never ((Chg.refl _ _).alloc _)) (by omega) (by omega) (by omega) (by omega)).mono ?_
          rintro e w1 ⟨rfl, hc1⟩
          have hw := (hc.alloc _).trans hc1
          clear hc1
          rw [errV_pos HZ.out]
          go_wp2_with fail
          go_ret2
          have E : hunksFault l = (k, oneFault x fin more) := by have := hf.out; rw [HG.out, if_neg HZ.out] at this; exact this.symm
          exact ⟨by rw [E]; show _ = Ending.returned (.tuple #[.int .i64 (k : Int), errV (oneFault x fin more)]); rw [errV_pos HZ.out]; rfl, hw⟩
      · go_wp2_with fail
        go_ret2
        have E : hunksFault l = (0, 0) := by have := hf.out; rw [List.drop_of_length_le (by omega), hunksGo] at this; exact this.symm
        exact ⟨by rw [E]; rfl, hc⟩
end Go.Proofs.YtgabchhplmncnaaGreatDoor
namespace Go.Proofs.YtgabchhplmncnaaGreatDoor

/-- p, seen from its beginning on, has the pieces l, and all else of it is kept (true: another piece may begin here) -/
inductive Pcs : Bool → List Mark → List Hunk → Prop
  | nil : Pcs true [] []
  | keep {b : Bool} {p : List Mark} {l : List Hunk} {m : Mark} : Pcs b p l → m.sign = 32 → Pcs true (p ++ [m]) l
  | hunk {p : List Mark} {l : List Hunk} (m : List Mark) : Pcs true p l → hasChange m = true → Pcs false (p ++ m) (l ++ [⟨oldN p, newN p, m⟩])

theorem inAt_iff {s : List Mark} {n : Int} {k : Nat} : inAt s n k = true ↔ ∃ (i : Nat) (x : Mark), s[i]? = some x ∧ x.sign ≠ 32 ∧ (k : Int) ≤ i + n ∧ (i : Int) ≤ k + n := by
  unfold inAt
  rw [List.any_eq_true]
  constructor
  · rintro ⟨i, hi, hp⟩
    rw [List.mem_range] at hi
    have hx : s[i]? = some s[i] := by simp [hi]
    rw [hx] at hp
    simp only [Option.any_some, isChange, Bool.and_eq_true, decide_eq_true_eq, Bool.not_eq_true', beq_eq_false_iff_ne] at hp
    exact ⟨i, _, hx, hp.1.1, hp.1.2, hp.2⟩
  · rintro ⟨i, x, hx, h1, h2, h3⟩
    refine ⟨i, List.mem_range.2 (List.getElem?_eq_some_iff.1 hx).1, ?_⟩
    rw [hx]
    simp only [Option.any_some, isChange, Bool.and_eq_true, decide_eq_true_eq, Bool.not_eq_true', beq_eq_false_iff_ne]
    exact ⟨⟨h1, h2⟩, h3⟩

/-- the piece that is open at k -/
structure PieceOpen (s : List Mark) (n : Int) (k : Nat) (p m : List Mark) (l : List Hunk) : Prop where
  eq : s.take k = p ++ m
  pcs : Pcs true p l
  cut : cutTo s n k = l ++ [⟨oldN p, newN p, m⟩]
  lt : p.length < k
  inn : ∀ j, p.length ≤ j → j < k → inAt s n j = true
  out : p.length = 0 ∨ inAt s n (p.length - 1) = false

theorem PieceOpen.change {s : List Mark} {n : Int} (hn : 0 ≤ n) {k : Nat} {p m : List Mark} {l : List Hunk} (h : PieceOpen s n k p m l) (_hk : k ≤ s.length) (hk' : k = s.length ∨ inAt s n k = false) : hasChange m = true := by
  obtain ⟨e, _, _, hlt, hin, hout⟩ := h
  obtain ⟨i, x, hx, h1, h2, h3⟩ := inAt_iff.1 (hin (k - 1) (by omega) (by omega))
  have hil := (List.getElem?_eq_some_iff.1 hx).1
  have c1 : i < k := by
    rcases Nat.lt_or_ge i k with h | h
    · exact h
    · rcases hk' with h' | h'
      · omega
      · have : inAt s n k = true := inAt_iff.2 ⟨i, x, hx, h1, by omega, by omega⟩
        rw [this] at h'; cases h'
  have c2 : p.length ≤ i := by
    rcases Nat.lt_or_ge i p.length with h | h
    · rcases hout with h' | h'
      · omega
      · have : inAt s n (p.length - 1) = true := inAt_iff.2 ⟨i, x, hx, h1, by omega, by omega⟩
        rw [this] at h'; cases h'
    · exact h
  have hm : m[i - p.length]? = some x := by
    have : (s.take k)[i]? = some x := by rw [List.getElem?_take, if_pos c1, hx]
    rw [e, List.getElem?_append_right c2] at this
    exact this
  unfold hasChange
  rw [List.any_eq_true]
  exact ⟨x, List.mem_of_getElem? hm, by simpa using h1⟩

/-! ### sums over pieces -/
theorem oldN_append (p m : List Mark) : oldN (p ++ m) = oldN p + oldN m := by simp [oldN, those, List.filter_append]
theorem newN_append (p m : List Mark) : newN (p ++ m) = newN p + newN m := by simp [newN, those, List.filter_append]
theorem changes_append (p m : List Mark) : changes (p ++ m) = changes p + changes m := by simp [changes, List.filter_append]
theorem oldN_keep {m : Mark} (h : m.sign = 32) : oldN [m] = 1 := by simp [oldN, those, h]
theorem newN_keep {m : Mark} (h : m.sign = 32) : newN [m] = 1 := by simp [newN, those, h]
theorem changes_keep {m : Mark} (h : m.sign = 32) : changes [m] = 0 := by simp [changes, h]

def manyChanges (l : List Hunk) : Nat := (l.map fun h => changes h.marks).sum
theorem Pcs.many {b : Bool} {p : List Mark} {l : List Hunk} (h : Pcs b p l) : manyChanges l = changes p := by
  induction h with
  | nil => rfl
  | keep h hs ih => rw [changes_append, changes_keep hs, ih]; rfl
  | hunk m h hc ih => rw [changes_append, ← ih]; simp [manyChanges]
/-! ### hunks, one by one -/
def hOk : Int → Int → List Hunk → Prop
  | _, _, [] => True
  | fin, more, h :: r => oneFault h fin more = 0 ∧ hOk (h.old + oldN h.marks) (more + newN h.marks - oldN h.marks) r
def hFin : Int → Int → List Hunk → Int × Int
  | fin, more, [] => (fin, more)
  | _, more, h :: r => hFin (h.old + oldN h.marks) (more + newN h.marks - oldN h.marks) r
theorem hunksGo_zero : ∀ (l : List Hunk) (i : Nat) (fin more : Int), (hunksGo i fin more l).2 = 0 → hOk fin more l
  | [], _, _, _, _ => trivial
  | h :: r, i, fin, more, hk => by
    rw [hunksGo] at hk
    by_cases h0 : oneFault h fin more = 0
    · rw [if_pos h0] at hk
      exact ⟨h0, hunksGo_zero r _ _ _ hk⟩
    · rw [if_neg h0] at hk
      exact absurd hk h0
theorem hunksFault_zero {l : List Hunk} (h : (hunksFault l).2 = 0) : l.length ≤ 60 ∧ hOk 0 0 l := by
  unfold hunksFault at h
  by_cases h1 : 60 < l.length
  · rw [if_pos h1] at h; simp at h
  · rw [if_neg h1] at h
    exact ⟨by omega, hunksGo_zero _ _ _ _ h⟩
theorem hOk_snoc : ∀ (l : List Hunk) (h : Hunk) (fin more : Int), hOk fin more l → oneFault h (hFin fin more l).1 (hFin fin more l).2 = 0 → hOk fin more (l ++ [h])
  | [], _h, _, _, _, h2 => ⟨h2, trivial⟩
  | _x :: r, h, _fin, _more, h1, h2 => ⟨h1.1, hOk_snoc r h _ _ h1.2 h2⟩
theorem hFin_snoc : ∀ (l : List Hunk) (h : Hunk) (fin more : Int), hFin fin more (l ++ [h]) = (h.old + oldN h.marks, (hFin fin more l).2 + newN h.marks - oldN h.marks)
  | [], _h, _fin, _more => rfl
  | _x :: r, h, _fin, _more => hFin_snoc r h _ _

theorem scriptFault_sub {s m : List Mark} (h : scriptFault s = 0) (hm : ∀ x ∈ m, x ∈ s) (hl : m.length ≤ s.length) : scriptFault m = 0 := by
  rw [scriptFault_zero] at h ⊢
  exact ⟨by omega, fun x hx => h.2 x (hm x hx)⟩
theorem oneFault_of {h : Hunk} {fin more : Int} (h1 : scriptFault h.marks = 0) (h2 : hasChange h.marks = true) (h3 : 0 ≤ h.old) (h4 : 0 ≤ h.new) (h5 : h.old + oldN h.marks ≤ 60) (h6 : h.new + newN h.marks ≤ 60) (h7 : fin ≤ h.old) (h8 : h.new = h.old + more) : oneFault h fin more = 0 := by
  unfold oneFault
  rw [if_neg (by simp [h1]), if_neg (by simp [h2]), if_neg (by omega), if_neg (by omega)]

theorem Pcs.ok {b : Bool} {p : List Mark} {l : List Hunk} (h : Pcs b p l) : scriptFault p = 0 → oldN p ≤ 60 → newN p ≤ 60 → hOk 0 0 l ∧ (hFin 0 0 l).1 ≤ oldN p ∧ (hFin 0 0 l).2 = (newN p : Int) - oldN p := by
  induction h with
  | nil => intro _ _ _; exact ⟨trivial, by simp [hFin], by simp [hFin, oldN, newN, those]⟩
  | @keep b p l m h hs ih =>
    intro s0 s1 s2
    rw [oldN_append, oldN_keep hs] at s1 ⊢
    rw [newN_append, newN_keep hs] at s2 ⊢
    obtain ⟨i1, i2, i3⟩ := ih (scriptFault_sub s0 (fun x hx => List.mem_append_left _ hx) (by simp)) (by omega) (by omega)
    exact ⟨i1, by omega, by omega⟩
  | @hunk p l m h hc ih =>
    intro s0 s1 s2
    rw [oldN_append] at s1 ⊢
    rw [newN_append] at s2 ⊢
    obtain ⟨i1, i2, i3⟩ := ih (scriptFault_sub s0 (fun x hx => List.mem_append_left _ hx) (by simp)) (by omega) (by omega)
    have hm := scriptFault_sub (m := m) s0 (fun x hx => List.mem_append_right _ hx) (by simp)
    rw [hFin_snoc]
    refine ⟨hOk_snoc _ _ _ _ i1 (oneFault_of hm hc ?_ ?_ ?_ ?_ ?_ ?_), ?_, ?_⟩
    all_goals simp only []
    all_goals omega

/-! ### turned -/
/-! ### of a great context one piece -/
/-! ### with more context no more pieces -/
end Go.Proofs.YtgabchhplmncnaaGreatDoor
namespace Go.Proofs.YtgabchhplmncnaaGreatDoor

/-- p has the hunks l, each at its place, and all else of it is kept -/
inductive Fits : List Mark → List Hunk → Prop
  | nil : Fits [] []
  | keep {p : List Mark} {l : List Hunk} {m : Mark} : Fits p l → m.sign = 32 → Fits (p ++ [m]) l
  | hunk {p : List Mark} {l : List Hunk} (m : List Mark) : Fits p l → hasChange m = true → Fits (p ++ m) (l ++ [⟨oldN p, newN p, m⟩])
theorem those_append (p m : List Mark) (no : Int) : those (p ++ m) no = those p no ++ those m no := by simp [those, List.filter_append]
theorem those_keep {m : Mark} (h : m.sign = 32) : those [m] 43 = [m.text] ∧ those [m] 45 = [m.text] := by simp [those, h]
theorem Fits.ok {p : List Mark} {l : List Hunk} (h : Fits p l) : (∀ x ∈ p, markFault x = 0) → (∀ q ∈ l, q.marks.length ≤ 120) → oldN p ≤ 60 → newN p ≤ 60 → hOk 0 0 l ∧ (hFin 0 0 l).1 ≤ oldN p ∧ (hFin 0 0 l).2 = (newN p : Int) - oldN p := by
  induction h with
  | nil => intro _ _ _ _; exact ⟨trivial, by simp [hFin], by simp [hFin, oldN, newN, those]⟩
  | @keep p l m h hs ih =>
    intro s0 s3 s1 s2
    rw [oldN_append, oldN_keep hs] at s1 ⊢
    rw [newN_append, newN_keep hs] at s2 ⊢
    obtain ⟨i1, i2, i3⟩ := ih (fun x hx => s0 x (List.mem_append_left _ hx)) s3 (by omega) (by omega)
    exact ⟨i1, by omega, by omega⟩
  | @hunk p l m h hc ih =>
    intro s0 s3 s1 s2
    rw [oldN_append] at s1 ⊢
    rw [newN_append] at s2 ⊢
    obtain ⟨i1, i2, i3⟩ := ih (fun x hx => s0 x (List.mem_append_left _ hx)) (fun q hq => s3 q (List.mem_append_left _ hq)) (by omega) (by omega)
    have hm : scriptFault m = 0 := scriptFault_zero.2 ⟨s3 ⟨oldN p, newN p, m⟩ (by simp), fun x hx => s0 x (List.mem_append_right _ hx)⟩
    rw [hFin_snoc]
    refine ⟨hOk_snoc _ _ _ _ i1 (oneFault_of hm hc ?_ ?_ ?_ ?_ ?_ ?_), ?_, ?_⟩
    all_goals simp only []
    all_goals omega

/-! ### hunks that were done fit -/
theorem hOk_mem : ∀ (l : List Hunk) (fin more : Int), hOk fin more l → ∀ h ∈ l, scriptFault h.marks = 0
  | [], _, _, _, h, hh => by simp at hh
  | x :: r, fin, more, hk, h, hh => by
    rcases List.mem_cons.1 hh with rfl | hh
    · exact (oneFault_zero hk.1).1
    · exact hOk_mem r _ _ hk.2 h hh
theorem markFault_line {m : Mark} (h : markFault m = 0) : lineFault m.text = 0 := by
  unfold markFault at h
  by_cases h1 : m.sign ≠ 32 ∧ m.sign ≠ 45 ∧ m.sign ≠ 43
  · rw [if_pos h1] at h; simp at h
  · rw [if_neg h1] at h; exact h
/-- lines of the new file are lines of the old one, or of a hunk -/
theorem Fits.lines {p : List Mark} {l : List Hunk} (h : Fits p l) (ha : ∀ x ∈ those p 43, lineFault x = 0) (hl : ∀ q ∈ l, scriptFault q.marks = 0) : ∀ x ∈ those p 45, lineFault x = 0 := by
  induction h with
  | nil => intro x hx; simp [those] at hx
  | @keep p l m h hs ih =>
    intro x hx
    rw [those_append, (those_keep hs).2] at hx
    rw [those_append, (those_keep hs).1] at ha
    rcases List.mem_append.1 hx with hx | hx
    · exact ih (fun y hy => ha y (List.mem_append_left _ hy)) hl x hx
    · exact ha x (List.mem_append_right _ hx)
  | @hunk p l m h hc ih =>
    intro x hx
    rw [those_append] at hx ha
    rcases List.mem_append.1 hx with hx | hx
    · exact ih (fun y hy => ha y (List.mem_append_left _ hy)) (fun q hq => hl q (List.mem_append_left _ hq)) x hx
    · have := scriptFault_zero.1 (hl ⟨oldN p, newN p, m⟩ (by simp))
      unfold those at hx
      obtain ⟨y, hy, rfl⟩ := List.mem_map.1 hx
      exact markFault_line (this.2 y (List.mem_filter.1 hy).1)

end Go.Proofs.YtgabchhplmncnaaGreatDoor
namespace Go.Proofs.YtgabchhplmncnaaGreatDoor

def wholeB (l : List Hunk) (s : Int) : Bool :=
  match l with
  | [] => true
  | [h] => decide (h.old = 0) && decide (h.new = 0) && h.marks.all fun m => decide (m.sign = s)
  | _ => false
def shapeB (c : Change) : Bool := if c.what = 2 then wholeB c.hunks 43 else if c.what = 3 then wholeB c.hunks 45 else !c.hunks.isEmpty
def changeFault (c : Change) : Int :=
  if c.what < 1 ∨ 3 < c.what then 1 else if pathFault c.path ≠ 0 then pathFault c.path else if (hunksFault c.hunks).2 ≠ 0 then (hunksFault c.hunks).2 else if shapeB c = true then 0 else 2
def patchGo : Nat → Option ByteArray → List Change → Nat × Int
  | _, _, [] => (0, 0)
  | i, prev, c :: r => if changeFault c ≠ 0 then (i, changeFault c) else if prev.any (fun p => leqB c.path p) = true then (i, 2) else patchGo (i + 1) (some c.path) r
def patchFault (p : List Change) : Nat × Int := if 16 < p.length then (0, 3) else patchGo 0 none p
def SortedC (p : List Change) : Prop := p.Pairwise fun c d => less c.path d.path = true
theorem patchGo_zero : ∀ (t : List Change) (i : Nat) (prev : Option ByteArray), (patchGo i prev t).2 = 0 → (∀ f ∈ t, changeFault f = 0) ∧ SortedC t ∧ (∀ p f, prev = some p → f ∈ t → less p f.path = true) ∧ patchGo i prev t = (0, 0)
  | [], _, _, _ => ⟨by simp, List.Pairwise.nil, by simp, rfl⟩
  | f :: r, i, prev, h => by
    rw [patchGo] at h ⊢
    by_cases h1 : changeFault f ≠ 0
    · rw [if_pos h1] at h; exact absurd h h1
    · rw [if_neg h1] at h ⊢
      by_cases h2 : prev.any (fun p => leqB f.path p) = true
      · rw [if_pos h2] at h; cases h
      · rw [if_neg h2] at h ⊢
        obtain ⟨i1, i2, i3, i4⟩ := patchGo_zero r (i + 1) (some f.path) h
        refine ⟨?_, ?_, ?_, i4⟩
        · intro x hx
          rcases List.mem_cons.1 hx with rfl | hx
          · simpa using h1
          · exact i1 x hx
        · exact List.Pairwise.cons (fun g hg => i3 f.path g rfl hg) i2
        · rintro p x rfl hx
          have hp : less p f.path = true := by
            simp only [Option.any_some] at h2
            rcases less_tri p f.path with g | g | g
            · exact g
            · exact absurd (leqB_true.2 (by rw [g]; exact less_irrefl _)) h2
            · exact absurd (leqB_true.2 (less_asymm g)) h2
          rcases List.mem_cons.1 hx with rfl | hx
          · exact hp
          · exact less_trans hp (i3 f.path x rfl hx)
/-! ### what a change does to what a path reads -/
/-! ### turned -/
end Go.Proofs.YtgabchhplmncnaaGreatDoor
namespace Go.Proofs.YtgabchhplmncnaaGreatDoor

def textG (p : List Change) : List UInt8 := textL (linesG p)
theorem parts_has {d c : UInt8} : ∀ {s : List UInt8}, c ∈ s → c = d ∨ ∃ x ∈ parts d s, c ∈ x
  | [], h => by cases h
  | e :: r, h => by
    obtain ⟨h', t, er⟩ := List.exists_cons_of_ne_nil (parts_ne d r)
    by_cases he : e = d
    · subst he
      rw [parts_sep]
      rcases List.mem_cons.1 h with rfl | h
      · exact .inl rfl
      · rcases parts_has (d := e) h with q | ⟨x, hx, q⟩
        · exact .inl q
        · exact .inr ⟨x, List.mem_cons_of_mem _ hx, q⟩
    · rw [parts_other he er]
      rcases List.mem_cons.1 h with rfl | h
      · exact .inr ⟨c :: h', List.mem_cons_self .., List.mem_cons_self ..⟩
      · rcases parts_has (d := d) h with q | ⟨x, hx, q⟩
        · exact .inl q
        · rw [er] at hx
          rcases List.mem_cons.1 hx with rfl | hx
          · exact .inr ⟨e :: x, List.mem_cons_self .., List.mem_cons_of_mem _ q⟩
          · exact .inr ⟨x, List.mem_cons_of_mem _ hx, q⟩
theorem path_fine {s : ByteArray} (h : pathFault s = 0) : s.data.toList.length ≤ 20 ∧ ∀ c ∈ s.data.toList, c ≠ 10 := by
  unfold pathFault at h
  by_cases hl : 20 < s.size
  · rw [if_pos hl] at h; cases h
  · rw [if_neg hl] at h
    refine ⟨by simpa using Nat.le_of_not_lt hl, fun c hc e => ?_⟩
    by_cases ha : (parts 47 s.data.toList).all nameOk = true
    · subst e
      rcases parts_has (d := 47) hc with q | ⟨x, hx, q⟩
      · exact absurd q (by decide)
      · have := List.all_eq_true.1 ha x hx
        unfold nameOk at this
        rw [Bool.and_eq_true] at this
        exact absurd (List.all_eq_true.1 this.2 10 q) (by decide)
    · rw [if_neg ha] at h; cases h
theorem change_ok {c : Change} (h : changeFault c = 0) : (c.what = 1 ∨ c.what = 2 ∨ c.what = 3) ∧ pathFault c.path = 0 ∧ (hunksFault c.hunks).2 = 0 := by
  unfold changeFault at h
  by_cases h1 : c.what < 1 ∨ 3 < c.what
  · rw [if_pos h1] at h; cases h
  · rw [if_neg h1] at h
    by_cases h2 : pathFault c.path ≠ 0
    · rw [if_pos h2] at h; exact absurd h h2
    · rw [if_neg h2] at h
      by_cases h3 : (hunksFault c.hunks).2 ≠ 0
      · rw [if_pos h3] at h; exact absurd h h3
      · exact ⟨by omega, by simpa using h2, by simpa using h3⟩
theorem hunks_short {l : List Hunk} (e : (hunksFault l).2 = 0) : (textL (linesU l)).length ≤ 11280 := by
  unfold hunksFault at e
  by_cases hl : 60 < l.length
  · rw [if_pos hl] at e; cases e
  · rw [if_neg hl] at e
    obtain ⟨_, _, h3⟩ := go_ok l 0 0 0 (by decide) (by decide) e
    omega
theorem noneL_10 : ∀ c ∈ noneL, c ≠ 10 := by decide
theorem from_fine (w : Int) {p : List UInt8} (h : p.length ≤ 20 ∧ ∀ c ∈ p, c ≠ 10) : (mmL ++ fromL w p).length ≤ 26 ∧ (∀ c ∈ mmL ++ fromL w p, c ≠ 10) ∧ (ppL ++ toL w p).length ≤ 26 ∧ (∀ c ∈ ppL ++ toL w p, c ≠ 10) := by
  have ha : ∀ c ∈ mmL, c ≠ 10 := by decide
  have hb : ∀ c ∈ ppL, c ≠ 10 := by decide
  have h1 : (fromL w p).length ≤ 22 ∧ ∀ c ∈ fromL w p, c ≠ 10 := by
    unfold fromL
    by_cases e : w = 2
    · rw [if_pos e]; exact ⟨by decide, noneL_10⟩
    · rw [if_neg e]
      refine ⟨by simp; omega, fun c hc => ?_⟩
      rcases List.mem_append.1 hc with q | q
      · exact (by decide : ∀ c ∈ ([97, 47] : List UInt8), c ≠ 10) c q
      · exact h.2 c q
  have h2 : (toL w p).length ≤ 22 ∧ ∀ c ∈ toL w p, c ≠ 10 := by
    unfold toL
    by_cases e : w = 3
    · rw [if_pos e]; exact ⟨by decide, noneL_10⟩
    · rw [if_neg e]
      refine ⟨by simp; omega, fun c hc => ?_⟩
      rcases List.mem_append.1 hc with q | q
      · exact (by decide : ∀ c ∈ ([98, 47] : List UInt8), c ≠ 10) c q
      · exact h.2 c q
  refine ⟨?_, fun c hc => ?_, ?_, fun c hc => ?_⟩
  · rw [List.length_append, show mmL.length = 4 from rfl]; omega
  · rcases List.mem_append.1 hc with q | q
    · exact ha c q
    · exact h1.2 c q
  · rw [List.length_append, show ppL.length = 4 from rfl]; omega
  · rcases List.mem_append.1 hc with q | q
    · exact hb c q
    · exact h2.2 c q
theorem changes_ok : ∀ (p : List Change), (∀ c ∈ p, changeFault c = 0) → (∀ x ∈ linesG p, ∀ c ∈ x, c ≠ 10) ∧ (textG p).length ≤ 11340 * p.length
  | [], _ => ⟨fun _ h => (by cases h), by show (0 : Nat) ≤ 0; omega⟩
  | c :: p, h => by
    obtain ⟨i1, i2⟩ := changes_ok p fun d hd => h d (List.mem_cons_of_mem _ hd)
    obtain ⟨_, q2, q3⟩ := change_ok (h c (List.mem_cons_self ..))
    obtain ⟨f1, f2, f3, f4⟩ := from_fine c.what (path_fine q2)
    have hs := hunks_short q3
    have hn := (hunks_ok q3).2.1
    have e : linesG (c :: p) = (mmL ++ fromL c.what c.path.data.toList) :: (ppL ++ toL c.what c.path.data.toList) :: (linesU c.hunks ++ linesG p) := rfl
    have et : (textG (c :: p)).length = (mmL ++ fromL c.what c.path.data.toList).length + 1 + ((ppL ++ toL c.what c.path.data.toList).length + 1 + ((textL (linesU c.hunks)).length + (textG p).length)) := by
      unfold textG
      rw [e]
      show ((mmL ++ fromL c.what c.path.data.toList) ++ [10] ++ ((ppL ++ toL c.what c.path.data.toList) ++ [10] ++ textL (linesU c.hunks ++ linesG p))).length = _
      rw [textL_app]
      simp only [List.length_append, List.length_singleton]
    refine ⟨fun x hx => ?_, by rw [et, List.length_cons]; omega⟩
    rw [e] at hx
    rcases List.mem_cons.1 hx with rfl | hx
    · exact f2
    · rcases List.mem_cons.1 hx with rfl | hx
      · exact f4
      · rcases List.mem_append.1 hx with hx | hx
        · exact hn x hx
        · exact i1 x hx
end Go.Proofs.YtgabchhplmncnaaGreatDoor
namespace Go.Proofs.YtgabchhplmncnaaGreatDoor

/-- in how many lines two texts differ, as far as both go -/
def diffZ : List ByteArray → List ByteArray → Nat
  | x :: a, y :: b => (if x = y then 0 else 1) + diffZ a b
  | _, _ => 0
/-- in how many lines two texts differ -/
def diffN : List ByteArray → List ByteArray → Nat
  | x :: a, y :: b => (if x = y then 0 else 1) + diffN a b
  | [], b => b.length
  | a, [] => a.length
theorem diffN_nil (a : List ByteArray) : diffN a [] = a.length := by cases a <;> rfl
theorem diffZ_nil (a : List ByteArray) : diffZ a [] = 0 := by cases a <;> rfl
theorem diffN_eq : ∀ (a b : List ByteArray), diffN a b = (max a.length b.length - min a.length b.length) + diffZ a b
  | [], b => by simp [diffN, diffZ]
  | x :: a, [] => by simp [diffN, diffZ]
  | x :: a, y :: b => by
    rw [diffN, diffZ, diffN_eq a b, List.length_cons, List.length_cons]
    omega
theorem diffZ_le : ∀ (a b : List ByteArray), diffZ a b ≤ min a.length b.length
  | [], b => by simp [diffZ]
  | x :: a, [] => by simp [diffZ]
  | x :: a, y :: b => by
    have := diffZ_le a b
    rw [diffZ, List.length_cons, List.length_cons]
    split <;> omega
theorem diffN_le (a b : List ByteArray) : diffN a b ≤ max a.length b.length := by
  rw [diffN_eq]
  have := diffZ_le a b
  omega
/-- what a text costs by itself -/
def aloneN (a : List ByteArray) : Nat := (a.length + 1) / 2 + 1
/-- the cost of two places, of which one or both may be none -/
def rangeCost (a b : List (List ByteArray)) (i k : Nat) : Int := match a[i]?, b[k]? with
  | some x, some y => (diffN x y : Nat)
  | some x, none => (aloneN x : Nat)
  | none, some y => (aloneN y : Nat)
  | none, none => 0
def rowOf (a b : List (List ByteArray)) (i : Nat) : List Int := (List.range (a.length + b.length)).map (rangeCost a b i)
def costsOf (a b : List (List ByteArray)) : List (List Int) := (List.range (a.length + b.length)).map (rowOf a b)
theorem costs_len (a b : List (List ByteArray)) : (costsOf a b).length = a.length + b.length := by simp [costsOf]
theorem row_len (a b : List (List ByteArray)) (i : Nat) : (rowOf a b i).length = a.length + b.length := by simp [rowOf]
theorem cost_bd {a b : List (List ByteArray)} (ha : ∀ x ∈ a, x.length ≤ 99000) (hb : ∀ x ∈ b, x.length ≤ 99000) (i k : Nat) : 0 ≤ rangeCost a b i k ∧ rangeCost a b i k ≤ 100000 := by
  unfold rangeCost aloneN
  cases hi : a[i]? with
  | none =>
    cases hk : b[k]? with
    | none => simp only; omega
    | some y => have := hb y (List.mem_of_getElem? hk); simp only; omega
  | some x =>
    have h1 := ha x (List.mem_of_getElem? hi)
    cases hk : b[k]? with
    | none => simp only; omega
    | some y =>
      have h2 := hb y (List.mem_of_getElem? hk)
      have := diffN_le x y
      simp only; omega
theorem costs_bd {a b : List (List ByteArray)} (ha : ∀ x ∈ a, x.length ≤ 99000) (hb : ∀ x ∈ b, x.length ≤ 99000) : SqBd (costsOf a b).length (costsOf a b) := by
  rw [costs_len]
  intro row hr
  unfold costsOf at hr
  obtain ⟨i, -, rfl⟩ := List.mem_map.1 hr
  refine ⟨row_len a b i, fun c hc => ?_⟩
  unfold rowOf at hc
  obtain ⟨k, -, rfl⟩ := List.mem_map.1 hc
  exact cost_bd ha hb i k
theorem row_take {a b : List (List ByteArray)} {i k : Nat} (hk : k < a.length + b.length) : ((List.range (a.length + b.length)).take (k + 1)).map (rangeCost a b i) = ((List.range (a.length + b.length)).take k).map (rangeCost a b i) ++ [rangeCost a b i k] := by
  rw [List.take_add_one, List.getElem?_range hk, Option.toList_some, List.map_append]; rfl
theorem costs_take {a b : List (List ByteArray)} {i : Nat} (hi : i < a.length + b.length) : ((List.range (a.length + b.length)).take (i + 1)).map (rowOf a b) = ((List.range (a.length + b.length)).take i).map (rowOf a b) ++ [rowOf a b i] := by
  rw [List.take_add_one, List.getElem?_range hi, Option.toList_some, List.map_append]; rfl

/-! ### a choice: each column once -/
theorem choose_mem {n : Nat} : ∀ {rows : List (List Int)} {left : Nat → Bool}, SqOk n rows → rows.length ≤ cntL left n → ∀ c ∈ chooseS rows left, ∃ k : Nat, c = k ∧ k < n ∧ left k = true
  | [], _, _, _, c, hc => by simp [chooseS] at hc
  | row :: rest, left, h, hl, c, hc => by
    obtain ⟨j, q1, q2, _, q4, _, q6, _⟩ := best_step h (by simpa using hl)
    rw [q6] at hc
    rcases List.mem_cons.1 hc with rfl | hc
    · exact ⟨j, rfl, q1, q2⟩
    · obtain ⟨k, e, r1, r2⟩ := choose_mem (sq_tail h) q4 c hc
      exact ⟨k, e, r1, (del_left r2).1⟩
theorem choose_nodup {n : Nat} : ∀ {rows : List (List Int)} {left : Nat → Bool}, SqOk n rows → rows.length ≤ cntL left n → (chooseS rows left).Nodup
  | [], _, _, _ => by simp [chooseS]
  | row :: rest, left, h, hl => by
    obtain ⟨j, q1, q2, _, q4, _, q6, _⟩ := best_step h (by simpa using hl)
    rw [q6, List.nodup_cons]
    refine ⟨fun hm => ?_, choose_nodup (sq_tail h) q4⟩
    obtain ⟨k, e, r1, r2⟩ := choose_mem (sq_tail h) q4 _ hm
    have : j = k := by omega
    subst this
    exact (del_left r2).2 rfl

/-! ### what is told -/
/-- of the first series' places -/
def firstsOf (n : Nat) (m : List Int) (i : Nat) : Int × Int := (i, if m.getD i 0 < n then m.getD i 0 else -1)
def rangeOut (a b : Nat) (m : List Int) : List (Int × Int) := (List.range a).map (firstsOf b m) ++ ((List.range b).filter fun (k : Nat) => decide ((k : Int) ∈ m.drop a)).map fun (k : Nat) => ((-1 : Int), (k : Int))
theorem firsts_take {a b : Nat} {m : List Int} {i : Nat} (hi : i < a) : ((List.range a).take (i + 1)).map (firstsOf b m) = ((List.range a).take i).map (firstsOf b m) ++ [firstsOf b m i] := by
  rw [List.take_add_one, List.getElem?_range hi, Option.toList_some, List.map_append]; rfl
theorem thens_take {b : Nat} {k : Nat} (p : Nat → Bool) (hk : k < b) : (((List.range b).take (k + 1)).filter p).map (fun (k : Nat) => ((-1 : Int), (k : Int))) = (((List.range b).take k).filter p).map (fun (k : Nat) => ((-1 : Int), (k : Int))) ++ if p k = true then [((-1 : Int), (k : Int))] else [] := by
  rw [List.take_add_one, List.getElem?_range hk, Option.toList_some, List.filter_append, List.map_append]
  by_cases e : p k = true
  · rw [if_pos e, List.filter_cons, if_pos e]; rfl
  · rw [if_neg e, List.filter_cons, if_neg e]; rfl
theorem filter_eq_of_nodup : ∀ {l : List Int} (k : Int), l.Nodup → l.filter (· == k) = if k ∈ l then [k] else []
  | [], _, _ => rfl
  | x :: l, k, h => by
    rw [List.nodup_cons] at h
    rw [List.filter_cons, filter_eq_of_nodup k h.2]
    by_cases e : x = k
    · subst e
      rw [if_pos (by simp), if_neg h.1, if_pos (List.mem_cons_self ..)]
    · rw [if_neg (by simp [e])]
      by_cases q : k ∈ l
      · rw [if_pos q, if_pos (List.mem_cons_of_mem _ q)]
      · rw [if_neg q, if_neg (by simp [q, Ne.symm e])]
/-- the patches' texts, by lines -/
def rtextOf (p : List Change) : List ByteArray := (linesG p).map toB
def rangeFault (p q : List (List Change)) : Int := if 4 < p.length ∨ 4 < q.length then 3 else firstOf (fun c => (patchFault c).2) (p ++ q)
def rangeM (p q : List (List Change)) : List Int := chooseS (costsOf (p.map rtextOf) (q.map rtextOf)) (bitsOf (2 ^ (costsOf (p.map rtextOf) (q.map rtextOf)).length - 1))
def rangeL (p q : List (List Change)) : List (Int × Int) := if rangeFault p q = 0 then rangeOut p.length q.length (rangeM p q) else []
theorem firstOf_app {α : Type} (f : α → Int) : ∀ (l m : List α), firstOf f (l ++ m) = if firstOf f l = 0 then firstOf f m else firstOf f l
  | [], m => by rw [List.nil_append, if_pos (by rfl)]
  | x :: l, m => by
    rw [List.cons_append, firstOf, firstOf]
    by_cases h : f x = 0
    · rw [if_pos h, if_pos h]; exact firstOf_app f l m
    · rw [if_neg h, if_neg h, if_neg h]

/-! ### a nodup list of so many numbers below n has all -/
/-- a choice: each number below n once -/
structure Choice (n : Nat) (m : List Int) : Prop where
  len : m.length = n
  nodup : m.Nodup
  mem : ∀ c ∈ m, ∃ k : Nat, c = k ∧ k < n
theorem cnt_all {n : Nat} : n ≤ cntL (bitsOf (2 ^ n - 1)) n := by rw [cnt_full n n (Nat.le_refl _)]; exact Nat.le_refl _
theorem choice_of {a b : List (List ByteArray)} (ha : ∀ x ∈ a, x.length ≤ 99000) (hb : ∀ x ∈ b, x.length ≤ 99000) : Choice (a.length + b.length) (chooseS (costsOf a b) (bitsOf (2 ^ (costsOf a b).length - 1))) := by
  have hq := (costs_bd ha hb).ok
  have hl := costs_len a b
  have hc : (costsOf a b).length ≤ cntL (bitsOf (2 ^ (costsOf a b).length - 1)) (costsOf a b).length := cnt_all
  refine ⟨by rw [choose_len hq hc, hl], choose_nodup hq hc, fun c hm => ?_⟩
  obtain ⟨k, e, h1, _⟩ := choose_mem hq hc c hm
  exact ⟨k, e, by rw [hl] at h1; exact h1⟩

/-! ### what is told: each place once -/
/-! ### of itself -/
end Go.Proofs.YtgabchhplmncnaaGreatDoor
