/-
  WHAT A ROW OF CELLS READS AS: 'Dat', for the types of this program. No program in sight.
-/
import Derived.Test.YtcgjegjnodopoaaDoorWk
import Derived.Test.YtcgjegjnodopoaaDoorSpec
namespace Go.Proofs.YtcgjegjnodopoaaDoor
open Go.RowKit

/-- 'rd w O cs x': the cells cs read as x in the world w, by way of no block of O. -/
class Dat (α : Type) where
  n : Nat
  rd : World → (Nat → Prop) → List Value → α → Prop
  bulk : α → Nat
  pos : 0 < n
  len : ∀ {w O cs x}, rd w O cs x → cs.length = n
  one : ∀ {w O cs x}, rd w O cs x → ∀ u ∈ cs, u.oneCell' = true
  keep : ∀ {w w' : World} {O O' O'' : Nat → Prop} {cs x}, rd w O cs x → Chg O' w w' → (∀ k, k < w.heap.size → O' k → O k) → (∀ k, k < w.heap.size → O'' k → O k) → rd w' O'' cs x

/-- what a value (of a slot) reads as -/
def Rdv {α : Type} [Dat α] (w : World) (O : Nat → Prop) (v : Value) (x : α) : Prop := Dat.rd w O [v] x

theorem Dat.never {α : Type} [Dat α] {w w' : World} {O : Nat → Prop} {cs : List Value} {x : α} (h : Dat.rd w O cs x) (hc : Chg Never w w') : Dat.rd w' O cs x :=
  Dat.keep h hc (fun _ _ h => h.elim) (fun _ _ h => h)
theorem Rdv.never {α : Type} [Dat α] {w w' : World} {O : Nat → Prop} {v : Value} {x : α} (h : Rdv w O v x) (hc : Chg Never w w') : Rdv w' O v x := Dat.never h hc
theorem Rdv.keep {α : Type} [Dat α] {w w' : World} {O O' O'' : Nat → Prop} {v : Value} {x : α} (h : Rdv w O v x) (hc : Chg O' w w') (h1 : ∀ k, k < w.heap.size → O' k → O k) (h2 : ∀ k, k < w.heap.size → O'' k → O k) : Rdv w' O'' v x := Dat.keep h hc h1 h2
theorem Rdv.sub {α : Type} [Dat α] {w : World} {O O' : Nat → Prop} {v : Value} {x : α} (h : Rdv w O v x) (h2 : ∀ k, k < w.heap.size → O' k → O k) : Rdv w O' v x := Dat.keep h (Chg.refl Never w) (fun _ _ h => h.elim) h2

/-- a number of 64 bits -/
def I64 (x : Int) : Prop := -9223372036854775808 ≤ x ∧ x ≤ 9223372036854775807
instance : Dat Int where
  n := 1
  rd _ _ cs x := cs = [.int .i64 x] ∧ I64 x
  bulk _ := 1
  pos := by decide
  len := by rintro _ _ _ _ ⟨rfl, _⟩; rfl
  one := by rintro _ _ _ _ ⟨rfl, _⟩ u hu; simp at hu; subst hu; rfl
  keep := by intro _ _ _ _ _ _ _ h _ _ _; exact h
instance : Dat Bool where
  n := 1
  rd _ _ cs x := cs = [.bool x]
  bulk _ := 1
  pos := by decide
  len := by rintro _ _ _ _ rfl; rfl
  one := by rintro _ _ _ _ rfl u hu; simp at hu; subst hu; rfl
  keep := by intro _ _ _ _ _ _ _ h _ _ _; exact h
instance : Dat UInt8 where
  n := 1
  rd _ _ cs x := cs = [.int .u8 x.toNat]
  bulk _ := 1
  pos := by decide
  len := by rintro _ _ _ _ rfl; rfl
  one := by rintro _ _ _ _ rfl u hu; simp at hu; subst hu; rfl
  keep := by intro _ _ _ _ _ _ _ h _ _ _; exact h
instance : Dat ByteArray where
  n := 1
  rd _ _ cs x := cs = [.string x] ∧ x.size ≤ maxLen
  bulk x := x.size + 1
  pos := by decide
  len := by rintro _ _ _ _ ⟨rfl, _⟩; rfl
  one := by rintro _ _ _ _ ⟨rfl, _⟩ u hu; simp at hu; subst hu; rfl
  keep := by intro _ _ _ _ _ _ _ h _ _ _; exact h
instance : Dat Mark where
  n := 2
  rd _ _ cs m := cs = [.int .u8 m.sign, .string m.text] ∧ 0 ≤ m.sign ∧ m.sign < 256 ∧ m.text.size ≤ maxLen
  bulk m := m.text.size + 3
  pos := by decide
  len := by rintro _ _ _ _ ⟨rfl, _⟩; rfl
  one := by rintro _ _ _ _ ⟨rfl, _⟩ u hu; simp at hu; rcases hu with rfl | rfl <;> rfl
  keep := by intro _ _ _ _ _ _ _ h _ _ _; exact h

/-- the cells of element number i of a row that begins at ⟨b, off⟩ -/
def CellsAt (w : World) (b off : Nat) (es : List Value) : Prop := ∀ (j : Nat) (u : Value), es[j]? = some u → w.cell? ⟨b, off + j, none⟩ = some u

theorem CellsAt.lt {w : World} {b off : Nat} {es : List Value} (h : CellsAt w b off es) (hn : 0 < es.length) : b < w.heap.size :=
  World.block_lt_of_cell? w ⟨b, off + 0, none⟩ (h 0 es[0] (by simp [hn]))
theorem CellsAt.keep {w w' : World} {O : Nat → Prop} {b off : Nat} {es : List Value} (h : CellsAt w b off es) (hc : Chg O w w') (hb : ¬ O b) : CellsAt w' b off es :=
  fun j u hj => hc.cell (p := ⟨b, off + j, none⟩) (h j u hj) hb

/-- a slice's elements -/
def Elems {α : Type} [Dat α] (w : World) (O : Nat → Prop) (a : Option Addr) (l : List α) : Prop :=
  ∀ (i : Nat) (x : α), l[i]? = some x → ∃ b off es, a = some ⟨b, off, none⟩ ∧ ¬ O b ∧ CellsAt w b (off + i * Dat.n α) es ∧ Dat.rd w O es x

theorem Elems.keep {α : Type} [Dat α] {w w' : World} {O O' O'' : Nat → Prop} {a : Option Addr} {l : List α} (h : Elems w O a l) (hc : Chg O' w w') (h1 : ∀ k, k < w.heap.size → O' k → O k) (h2 : ∀ k, k < w.heap.size → O'' k → O k) : Elems w' O'' a l := by
  intro i x hx
  obtain ⟨b, off, es, ha, hb, hcs, hr⟩ := h i x hx
  have hlt := hcs.lt (by rw [Dat.len hr]; exact Dat.pos (α := α))
  exact ⟨b, off, es, ha, fun hb' => hb (h2 b hlt hb'), hcs.keep hc (fun hb' => hb (h1 b hlt hb')), Dat.keep hr hc h1 h2⟩

instance {α : Type} [Dat α] : Dat (List α) where
  n := 1
  rd w O cs l := ∃ a cap, cs = [.slice a l.length cap] ∧ l.length ≤ cap ∧ cap ≤ maxLen ∧ Elems w O a l
  bulk l := (l.map Dat.bulk).sum + 1
  pos := by decide
  len := by rintro _ _ _ _ ⟨a, cap, rfl, _⟩; rfl
  one := by rintro _ _ _ _ ⟨a, cap, rfl, _⟩ u hu; simp at hu; subst hu; rfl
  keep := by
    rintro w w' O O' O'' cs l ⟨a, cap, rfl, h1, h2, h3⟩ hc k1 k2
    exact ⟨a, cap, rfl, h1, h2, h3.keep hc k1 k2⟩

instance : Dat Hunk where
  n := 3
  rd w O cs h := ∃ v, cs = [.int .i64 h.old, .int .i64 h.new, v] ∧ Dat.rd w O [v] h.marks
  bulk h := Dat.bulk h.marks + 3
  pos := by decide
  len := by rintro _ _ _ _ ⟨v, rfl, _⟩; rfl
  one := by
    rintro _ _ _ _ ⟨v, rfl, hv⟩ u hu
    simp only [List.mem_cons, List.not_mem_nil, or_false] at hu
    rcases hu with rfl | rfl | rfl
    · rfl
    · rfl
    · exact Dat.one hv _ (by simp)
  keep := by
    rintro w w' O O' O'' cs l ⟨v, rfl, h⟩ hc k1 k2
    exact ⟨v, rfl, Dat.keep h hc k1 k2⟩
instance : Dat File where
  n := 2
  rd w O cs h := ∃ v, cs = [.string h.path, v] ∧ h.path.size ≤ maxLen ∧ Dat.rd w O [v] h.lines
  bulk h := h.path.size + Dat.bulk h.lines + 2
  pos := by decide
  len := by rintro _ _ _ _ ⟨v, rfl, _⟩; rfl
  one := by
    rintro _ _ _ _ ⟨v, rfl, _, hv⟩ u hu
    simp only [List.mem_cons, List.not_mem_nil, or_false] at hu
    rcases hu with rfl | rfl
    · rfl
    · exact Dat.one hv _ (by simp)
  keep := by
    rintro w w' O O' O'' cs l ⟨v, rfl, hp, h⟩ hc k1 k2
    exact ⟨v, rfl, hp, Dat.keep h hc k1 k2⟩
instance : Dat Change where
  n := 3
  rd w O cs h := ∃ v, cs = [.int .i64 h.what, .string h.path, v] ∧ h.path.size ≤ maxLen ∧ Dat.rd w O [v] h.hunks
  bulk h := h.path.size + Dat.bulk h.hunks + 3
  pos := by decide
  len := by rintro _ _ _ _ ⟨v, rfl, _⟩; rfl
  one := by
    rintro _ _ _ _ ⟨v, rfl, _, hv⟩ u hu
    simp only [List.mem_cons, List.not_mem_nil, or_false] at hu
    rcases hu with rfl | rfl | rfl
    · rfl
    · rfl
    · exact Dat.one hv _ (by simp)
  keep := by
    rintro w w' O O' O'' cs l ⟨v, rfl, hp, h⟩ hc k1 k2
    exact ⟨v, rfl, hp, Dat.keep h hc k1 k2⟩
instance : Dat Mail where
  n := 4
  rd w O cs m := ∃ v, cs = [.string m.sender, .string m.subject, .string m.ident, v] ∧ m.sender.size ≤ maxLen ∧ m.subject.size ≤ maxLen ∧ m.ident.size ≤ maxLen ∧ Dat.rd w O [v] m.body
  bulk m := m.sender.size + m.subject.size + m.ident.size + Dat.bulk m.body + 4
  pos := by decide
  len := by rintro _ _ _ _ ⟨v, rfl, _⟩; rfl
  one := by
    rintro _ _ _ _ ⟨v, rfl, _, _, _, hv⟩ u hu
    simp only [List.mem_cons, List.not_mem_nil, or_false] at hu
    rcases hu with rfl | rfl | rfl | rfl
    · rfl
    · rfl
    · rfl
    · exact Dat.one hv _ (by simp)
  keep := by
    rintro w w' O O' O'' cs l ⟨v, rfl, h1, h2, h3, h⟩ hc k1 k2
    exact ⟨v, rfl, h1, h2, h3, Dat.keep h hc k1 k2⟩
instance : Dat (Int × Int) where
  n := 2
  rd _ _ cs x := cs = [.int .i64 x.1, .int .i64 x.2]
  bulk _ := 3
  pos := by decide
  len := by rintro _ _ _ _ rfl; rfl
  one := by rintro _ _ _ _ rfl u hu; simp at hu; rcases hu with rfl | rfl <;> rfl
  keep := by intro _ _ _ _ _ _ _ h _ _ _; exact h

theorem rdv_slice {α : Type} [Dat α] {w : World} {O : Nat → Prop} {v : Value} {l : List α} (h : Rdv w O v l) : ∃ a cap, v = .slice a l.length cap ∧ l.length ≤ cap ∧ cap ≤ maxLen ∧ Elems w O a l := by
  obtain ⟨a, cap, e, h1⟩ := h
  simp only [List.cons.injEq, and_true] at e
  exact ⟨a, cap, e, h1⟩
theorem rdv_nil {α : Type} [Dat α] (w : World) (O : Nat → Prop) : Rdv w O (.slice none 0 0) ([] : List α) :=
  ⟨none, 0, rfl, Nat.le_refl _, Nat.zero_le _, fun i x h => by simp at h⟩

/-! ### a slice that the call itself builds -/
/-- v owns its row, whose elements read as l (by way of no block of O, and not of its own row) -/
def Own {α : Type} [Dat α] (e : TypeId) (w : World) (O : Nat → Prop) (v : Value) (l : List α) : Prop :=
  ∃ xs, w.ownsRow 0 e (Dat.n α) v l.length xs ∧ (∀ k, v.ownBlock = some k → ¬ O k) ∧
    ∀ (i : Nat) (x : α), l[i]? = some x → Dat.rd w (fun k => O k ∨ v.ownBlock = some k) ((xs.drop (i * Dat.n α)).take (Dat.n α)) x

theorem own_nil {α : Type} [Dat α] (e : TypeId) (w : World) (O : Nat → Prop) : Own e w O (.slice none 0 0) ([] : List α) :=
  ⟨[], World.ownsRow_nil _ _ _ _, fun k h => by simp [Value.ownBlock] at h, fun i x h => by simp at h⟩

/-! ### an element's cells, in the walk's spelling -/
theorem elems_str {w : World} {O : Nat → Prop} {a : Option Addr} {l : List ByteArray} (h : Elems w O a l) {i : Nat} {x : ByteArray} (hx : l[i]? = some x) :
    ∃ b off, a = some ⟨b, off, none⟩ ∧ ¬ O b ∧ b < w.heap.size ∧ w.cell? ⟨b, off + i, none⟩ = some (.string x) ∧ x.size ≤ maxLen := by
  obtain ⟨b, off, es, ha, hb, hcs, rfl, hs⟩ := h i x hx
  refine ⟨b, off, ha, hb, hcs.lt (by simp), ?_, hs⟩
  have := hcs 0 (.string x) rfl
  simpa [Dat.n] using this
theorem elems_mark {w : World} {O : Nat → Prop} {a : Option Addr} {l : List Mark} (h : Elems w O a l) {i : Nat} {x : Mark} (hx : l[i]? = some x) :
    ∃ b off, a = some ⟨b, off, none⟩ ∧ ¬ O b ∧ b < w.heap.size ∧ w.cell? ⟨b, off + i * 2, none⟩ = some (.int .u8 x.sign) ∧ w.cell? ⟨b, off + i * 2 + 1, none⟩ = some (.string x.text) ∧ 0 ≤ x.sign ∧ x.sign < 256 ∧ x.text.size ≤ maxLen := by
  obtain ⟨b, off, es, ha, hb, hcs, rfl, hs⟩ := h i x hx
  refine ⟨b, off, ha, hb, hcs.lt (by simp), ?_, ?_, hs⟩
  · simpa [Dat.n] using hcs 0 _ rfl
  · simpa [Dat.n] using hcs 1 _ rfl

/-! ### slice literals -/
def RdAll {α : Type} [Dat α] (w : World) : List Value → List α → Prop
  | _, [] => True
  | cs, x :: l => Dat.rd w Never (cs.take (Dat.n α)) x ∧ RdAll w (cs.drop (Dat.n α)) l
theorem rdAll_get {α : Type} [Dat α] {w : World} : ∀ (l : List α) (cs : List Value), RdAll w cs l → ∀ (i : Nat) (x : α), l[i]? = some x → Dat.rd w Never ((cs.drop (i * Dat.n α)).take (Dat.n α)) x
  | [], _, _, i, x, hx => by simp at hx
  | y :: l, cs, h, 0, x, hx => by
    simp only [List.getElem?_cons_zero, Option.some.injEq] at hx
    subst hx
    simpa using h.1
  | y :: l, cs, h, i + 1, x, hx => by
    have := rdAll_get l _ h.2 i x (by simpa using hx)
    rw [List.drop_drop] at this
    rwa [show (i + 1) * Dat.n α = Dat.n α + i * Dat.n α by rw [Nat.succ_mul, Nat.add_comm]]
/-- a slice literal -/
theorem rdv_lit {α : Type} [Dat α] {w : World} {g : Nat} {e : TypeId} {cs : List Value} {l : List α} {n : Nat} (h : w.heap[g]? = some (.cells cs.toArray e (0, 0))) (hn : n = l.length) (hm : n ≤ 1000) (hr : RdAll w cs l) :
    Rdv w Never (.slice (some ⟨g, 0, none⟩) n n) l := by
  subst hn
  refine ⟨some ⟨g, 0, none⟩, l.length, rfl, Nat.le_refl _, by unfold maxLen; omega, ?_⟩
  intro i x hx
  have hr' := rdAll_get l cs hr i x hx
  refine ⟨g, 0, _, rfl, fun h => h, ?_, hr'⟩
  intro j u hj
  rw [List.getElem?_take] at hj
  split at hj
  · rw [List.getElem?_drop] at hj
    simp only [World.cell?, h]
    simpa using hj
  · cases hj
end Go.Proofs.YtcgjegjnodopoaaDoor
