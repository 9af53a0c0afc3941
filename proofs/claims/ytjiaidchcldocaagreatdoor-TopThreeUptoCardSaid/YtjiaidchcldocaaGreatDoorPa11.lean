/-
  PARTS: WHICH IS WHICH, in plain Lean: what the program chooses is what the document chooses, and none is cheaper. Rows of costs; `left`: which columns are left.; COLUMNS LEFT AS BITS of a small number.; THE LEAST COSTS BY SETS OF COLUMNS, in plain Lean: bounds; how a set's is come by.; OF ITSELF EACH IS ITSELF, in plain Lean (RangeSelf): costs that are 0 from corner to corner.; TWO SERIES, WHICH IS WHICH, in plain Lean: the costs, what is told of a choice.; SERIES, in plain Lean (chapter 13): the pieces of a series, test by test; what the document gathers of them.; A MAP FROM NUMBERS TO NUMBERS that the call has made: what it holds, as a function.; A MAP FROM NUMBERS TO PARTS OF A SERIES, as a function.; A ROW OF PARTS OF A SERIES: what its cells read as.; THE WALKS of match.apart, alone, and of the document's differ.; A SLICE OF SLICES: an element's cell. No program in sight.; THE WALK of git.Print.; THE WALKS of match.cost and texts.; THE WALKS OF LAYER 4: slices.Clone, hunk.Copy.; ROWS OF A SLICE OF ITS OWN, element by element: what copy, clear, append do to one. No function of the program in sight.; THE WALKS of the document's DropOf, PutOf.; THE WALK of slices.Delete of one file, in place.
-/
import Derived.Test.YtjiaidchcldocaaGreatDoorPa10
import Init
import Derived.Test.YtjiaidchcldocaaGreatDoorPa4
import Derived.Test.YtjiaidchcldocaaGreatDoorPa1
import Derived.Maps.OwnOps
import Derived.Maps.Views
import Derived.Maps.OwnSet
import Derived.Test.YtjiaidchcldocaaGreatDoorPa2
import Derived.Test.YtjiaidchcldocaaGreatDoorPa5
import Derived.Deep.QuietTactic
import Derived.BigQuiet
import Derived.Test.YtjiaidchcldocaaGreatDoorPa8
import Derived.Test.YtjiaidchcldocaaGreatDoorPa7
import Derived.Deep.RegionHeld3
import Derived.Lib.AppendZerosOnto
set_option linter.unusedVariables false
set_option linter.unusedSimpArgs false
namespace Go.Proofs.YtjiaidchcldocaaGreatDoor

/-- rows that may be -/
def SqOk (n : Nat) (rows : List (List Int)) : Prop := ∀ row ∈ rows, row.length = n ∧ ∀ c ∈ row, 0 ≤ c
/-! ### a choice's cost -/
/-! ### a row that is dearer for all columns -/
end Go.Proofs.YtjiaidchcldocaaGreatDoor
namespace Go.Proofs.YtjiaidchcldocaaGreatDoor
end Go.Proofs.YtjiaidchcldocaaGreatDoor
namespace Go.Proofs.YtjiaidchcldocaaGreatDoor

/-- rows that may be, with bounded costs -/
def SqBd (n : Nat) (rows : List (List Int)) : Prop := ∀ row ∈ rows, row.length = n ∧ ∀ c ∈ row, 0 ≤ c ∧ c ≤ 100000
theorem SqBd.ok {n : Nat} {rows : List (List Int)} (h : SqBd n rows) : SqOk n rows := fun r hr => ⟨(h r hr).1, fun c hc => ((h r hr).2 c hc).1⟩
theorem SqBd.drop {n : Nat} {rows : List (List Int)} (h : SqBd n rows) (k : Nat) : SqBd n (rows.drop k) := fun r hr => h r (List.mem_of_mem_drop hr)
theorem SqBd.tail {n : Nat} {row : List Int} {rest : List (List Int)} (h : SqBd n (row :: rest)) : SqBd n rest := fun r hr => h r (List.mem_cons_of_mem _ hr)
theorem SqBd.at {n : Nat} {row : List Int} {rest : List (List Int)} (h : SqBd n (row :: rest)) (k : Nat) : 0 ≤ row.getD k 0 ∧ row.getD k 0 ≤ 100000 := by
  rw [List.getD_eq_getElem?_getD]
  cases e : row[k]? with
  | none => exact ⟨Int.le_refl _, by decide⟩
  | some c => exact (h row (List.mem_cons_self ..)).2 c (List.mem_of_getElem? e)
/-! ### the numbers' bits -/
end Go.Proofs.YtjiaidchcldocaaGreatDoor
namespace Go.Proofs.YtjiaidchcldocaaGreatDoor

end Go.Proofs.YtjiaidchcldocaaGreatDoor
namespace Go.Proofs.YtjiaidchcldocaaGreatDoor

/-! ### a choice: each column once -/
/-! ### what is told -/
/-! ### a nodup list of so many numbers below n has all -/
/-- a choice: each number below n once -/
structure Choice (n : Nat) (m : List Int) : Prop where
  len : m.length = n
  nodup : m.Nodup
  mem : ∀ c ∈ m, ∃ k : Nat, c = k ∧ k < n
/-! ### what is told: each place once -/
/-! ### of itself -/
end Go.Proofs.YtjiaidchcldocaaGreatDoor
namespace Go.Proofs.YtjiaidchcldocaaGreatDoor

def PieceOk (x : Piece) : Prop := titledB x.title = true ∧ x.at' ≤ x.many ∧ x.many ≤ 8
theorem pieceOk_of {m : Mail} (h : pieceF m = 0) : PieceOk (pieceOf m) := by
  unfold pieceF at h
  unfold pieceOf
  by_cases hm : mailFault m = 0
  · rw [if_neg (by rw [hm]; simp)] at h
    cases e : mpartOf m with
    | none => rw [e] at h; cases h
    | some p =>
      obtain ⟨t, a, b⟩ := p
      obtain ⟨h1, h2, h3, _⟩ := part_some e
      exact ⟨h3, h1, h2⟩
  · rw [if_pos hm] at h; exact absurd h hm
/-- the first ones go together -/
def SameTo (ps : List Piece) (k : Nat) : Prop := ∀ y ∈ ps.take k, ∀ x, ps[0]? = some x → y.title = x.title ∧ y.many = x.many
theorem same_zero (ps : List Piece) : SameTo ps 0 := fun y hy => by cases hy
theorem same_step {ps : List Piece} {k : Nat} {y : Piece} (h : SameTo ps k) (hy : ps[k]? = some y) (hs : ∀ x, ps[0]? = some x → y.title = x.title ∧ y.many = x.many) : SameTo ps (k + 1) := fun z hz x hx => by
  rw [List.take_add_one, hy, Option.toList_some] at hz
  rcases List.mem_append.1 hz with hz | hz
  · exact h z hz x hx
  · rw [List.mem_singleton] at hz
    subst hz
    exact hs x hx
theorem same_all {x : Piece} {r : List Piece} (h : SameTo (x :: r) (x :: r).length) : (x :: r).all (fun y => y.title == x.title && y.many == x.many) = true := by
  rw [List.all_eq_true]
  intro y hy
  obtain ⟨a, b⟩ := h y (by rw [List.take_length]; exact hy) x rfl
  rw [a, b]; simp
theorem open_shape {ps : List Piece} {k : Nat} {x y : Piece} (hx : ps[0]? = some x) (hy : ps[k]? = some y) (h : ¬ (y.title = x.title ∧ y.many = x.many)) : openPs ps = ([], [], 2) := by
  match ps, hx, hy with
  | z :: r, hx, hy =>
    simp only [List.getElem?_cons_zero, Option.some.injEq] at hx
    subst hx
    unfold openPs
    simp only
    rw [if_pos]
    cases e : (z :: r).all (fun y => y.title == z.title && y.many == z.many) with
    | false => rfl
    | true =>
      have a := List.all_eq_true.1 e y (List.mem_of_getElem? hy)
      rw [Bool.and_eq_true] at a
      exact absurd ⟨eq_of_beq a.1, eq_of_beq a.2⟩ h
theorem open_clash {ps : List Piece} (hs : SameTo ps ps.length) {k : Nat} {y : Piece} (hy : ps[k]? = some y) (h : y.at' ∈ (ps.take k).map (·.at')) : openPs ps = ([], [], 6) := by
  have hn : ¬ (ps.map (·.at')).Nodup := fun q => by
    have e : ps.map (·.at') = (ps.take k).map (·.at') ++ y.at' :: (ps.drop (k + 1)).map (·.at') := by
      obtain ⟨hk, e⟩ := List.getElem?_eq_some_iff.1 hy
      conv => lhs; rw [← List.take_append_drop k ps, List.drop_eq_getElem_cons hk, e]
      simp
    rw [e, List.nodup_append] at q
    exact q.2.2 _ h _ (List.mem_cons_self ..) rfl
  match ps, hs, hn with
  | [], _, hn => exact absurd List.nodup_nil hn
  | x :: r, hs, hn =>
    unfold openPs
    simp only
    rw [same_all hs, if_neg (by decide), if_pos hn]
theorem nodup_step {ps : List Piece} {k : Nat} {y : Piece} (h : ((ps.take k).map (·.at')).Nodup) (hy : ps[k]? = some y) (hn : y.at' ∉ (ps.take k).map (·.at')) : ((ps.take (k + 1)).map (·.at')).Nodup := by
  rw [List.take_add_one, hy, Option.toList_some, List.map_append, List.nodup_append]
  refine ⟨h, by simp, fun a ha b hb e => ?_⟩
  rw [List.map_cons, List.map_nil, List.mem_singleton] at hb
  subst hb; subst e
  exact hn ha
theorem openp_none : openPs [] = ([], [], 4) := rfl
theorem open_few {ps : List Piece} (hs : SameTo ps ps.length) (hn : (ps.map (·.at')).Nodup) {x : Piece} (hx : ps[0]? = some x) (hl : ps.length ≤ x.many) : openPs ps = ([], [], 4) := by
  match ps, hs, hn, hx, hl with
  | z :: r, hs, hn, hx, hl =>
    simp only [List.getElem?_cons_zero, Option.some.injEq] at hx
    subst hx
    unfold openPs
    simp only
    rw [same_all hs, if_neg (by decide), if_neg (by simpa using hn), if_pos hl]
theorem open_good {ps : List Piece} (hs : SameTo ps ps.length) (hn : (ps.map (·.at')).Nodup) {x : Piece} (hx : ps[0]? = some x) (hl : x.many < ps.length) : openPs ps = (x.title, (List.range x.many).map fun i => getP ps (i + 1), 0) := by
  match ps, hs, hn, hx, hl with
  | z :: r, hs, hn, hx, hl =>
    simp only [List.getElem?_cons_zero, Option.some.injEq] at hx
    subst hx
    unfold openPs
    simp only
    rw [same_all hs, if_neg (by decide), if_neg (by simpa using hn), if_neg (by omega)]
/-- what is found at a number -/
def foundAt (ps : List Piece) (k : Nat) : Option Piece := ps.find? fun x => x.at' == k
theorem found_none {ps : List Piece} {k : Nat} (h : k ∉ ps.map (·.at')) : foundAt ps k = none := by
  unfold foundAt
  rw [List.find?_eq_none]
  intro x hx q
  exact h (List.mem_map.2 ⟨x, hx, by simpa using q⟩)
theorem found_mem {ps : List Piece} {k : Nat} (h : k ∈ ps.map (·.at')) : ∃ x, foundAt ps k = some x ∧ x.at' = k := by
  cases e : foundAt ps k with
  | none =>
    obtain ⟨x, hx, hk⟩ := List.mem_map.1 h
    unfold foundAt at e
    rw [List.find?_eq_none] at e
    exact absurd (by simpa using hk) (e x hx)
  | some x => exact ⟨x, rfl, by have := List.find?_some e; simpa using this⟩
theorem found_step {ps : List Piece} {k : Nat} {y : Piece} (hy : ps[k]? = some y) (hn : y.at' ∉ (ps.take k).map (·.at')) (j : Nat) : foundAt (ps.take (k + 1)) j = if j = y.at' then some y else foundAt (ps.take k) j := by
  have h0 : foundAt (ps.take (k + 1)) j = (foundAt (ps.take k) j).or (if y.at' == j then some y else none) := by
    unfold foundAt
    rw [List.take_add_one, hy, Option.toList_some, List.find?_append, List.find?_cons]
    by_cases q : (y.at' == j) = true
    · rw [q]; rfl
    · rw [Bool.not_eq_true] at q
      rw [q]; rfl
  rw [h0]
  by_cases e : j = y.at'
  · subst e
    rw [if_pos rfl, found_none hn, if_pos (by simp)]; rfl
  · rw [if_neg e, if_neg (by simp; omega)]
    cases foundAt (ps.take k) j <;> rfl
theorem get_found (ps : List Piece) (k : Nat) : getP ps k = ((foundAt ps k).map (·.patch)).getD [] := rfl

/-! ### as the document gathers them -/
end Go.Proofs.YtjiaidchcldocaaGreatDoor
namespace Go.Proofs.YtjiaidchcldocaaGreatDoor
open Go.RowKit Go.Maps

theorem int_law : Keyed Tryz.prog 3 := int_keyed Tryz.underlying3
theorem zero_int (w : World) : (zeroValue 3).run Tryz.prog w = .ok (.int .i64 0) w := by kernel_rfl
/-- block b is a map of at most n entries that holds F j at j (nothing: 0) -/
def IntMap (w : World) (b n : Nat) (F : Int → Int) : Prop :=
  ∃ D : DataW Unit, w.ownsMap Tryz.prog 3 (plainElem Tryz.prog 3) b n D ∧ IsMap D ∧ ∀ j, D.atKey (.int .i64 j) (.lit (.int .i64 0)) = .lit (.int .i64 (F j))
theorem IntMap.lt {w : World} {b n : Nat} {F : Int → Int} (h : IntMap w b n F) : b < w.heap.size := by
  obtain ⟨D, h1, _⟩ := h
  exact h1.lt
theorem IntMap.keep {w w' : World} {b n : Nat} {F : Int → Int} {O : Nat → Prop} (h : IntMap w b n F) (hc : Chg O w w') (hb : ¬ O b) : IntMap w' b n F := by
  have hlt := h.lt
  obtain ⟨D, ⟨es, clock, h1, h2⟩, h3⟩ := h
  exact ⟨D, ⟨es, clock, (hc.block b hlt hb).trans h1, h2⟩, h3⟩
theorem IntMap.mono {w : World} {b n n' : Nat} {F : Int → Int} (h : IntMap w b n F) (hn : n ≤ n') : IntMap w b n' F := by
  obtain ⟨D, h1, h2⟩ := h
  exact ⟨D, h1.mono hn, h2⟩
theorem wf_i64 {a : Int} (h : I64 a) : (Lit.int .i64 a).wf = true := by
  unfold I64 at h
  exact WalkArith.wf_i64 (by omega)
theorem IntMap.look {w : World} {b n : Nat} {F : Int → Int} (h : IntMap w b n F) {j : Int} (hj : I64 j) : (Instr.lookup 163 (.map (some b)) (.int .i64 j) false).run Tryz.prog w = .ok (.int .i64 (F j)) w := by
  obtain ⟨D, h1, h2, h3⟩ := h
  obtain ⟨c, hrun, hat, _⟩ := h1.lookup_int int_law Tryz.underlying163 Tryz.underlying3 (zero_int w) (keyOf_int_mk Tryz.underlying3 (wf_i64 hj))
  rw [h3 j] at hat
  simp only [DataW.lit.injEq, Lit.int.injEq, true_and] at hat
  rw [hat]
  exact hrun
theorem IntMap.put {w : World} {b n : Nat} {F : Int → Int} (h : IntMap w b n F) (hn : n < maxLen) {j c : Int} (hj : I64 j) (hc : I64 c) :
    ∃ w', (Instr.mapUpdate 163 (.map (some b)) (.int .i64 j) (.int .i64 c)).run Tryz.prog w = .ok () w' ∧ IntMap w' b (n + 1) (fun i => if i = j then c else F i) ∧ Chg (fun k => k = b) w w' := by
  obtain ⟨D, h1, h2, h3⟩ := h
  obtain ⟨w', hrun, r1, r2⟩ := h1.update int_law Tryz.underlying163 hn (keyOf_int_mk Tryz.underlying3 (wf_i64 hj)) (plainElem_int Tryz.underlying3 (wf_i64 hc))
  refine ⟨w', hrun, ⟨_, r1, h2.put _ _, fun i => ?_⟩, (Chg.of_grown r2).mono (fun k _ hk => (Option.some.inj hk).symm)⟩
  by_cases e : i = j
  · subst e
    show _ = DataW.lit (.int .i64 (if i = i then c else F i))
    rw [if_pos rfl]
    exact atKey_put_same h2 (by simp [WideAt.IsKeyLit]) _ _
  · show _ = DataW.lit (.int .i64 (if i = j then c else F i))
    rw [if_neg e, atKey_put_other (by simp [e])]
    exact h3 i
end Go.Proofs.YtjiaidchcldocaaGreatDoor
namespace Go.Proofs.YtjiaidchcldocaaGreatDoor
open Go.RowKit
open Go.Maps
open Go.Maps (Keyed IsMap)
open Go.WideElems (Fit)

def heldE (v : Value) : Option (DataW Value × List MemPlace) := some (.held v, [])
def zeroPart : Value := .agg #[.string ⟨#[]⟩, .int .i64 0, .int .i64 0, .slice none 0 0]
theorem zero_part (w : World) : (zeroValue 97).run Tryz.prog w = .ok zeroPart w := by kernel_rfl
/-- block b is a map of n entries that holds at j what F says -/
def PartMap (w : World) (b n : Nat) (F : Int → Option Value) : Prop :=
  ∃ D : DataW Value, w.ownsMap Tryz.prog 3 heldE b n D ∧ IsMap D ∧ Maps.size D = n ∧ (∀ j, D.atKey (.int .i64 j) (.held zeroPart) = .held ((F j).getD zeroPart)) ∧ ∀ j, Maps.has D (.int .i64 j) = (F j).isSome
theorem PartMap.lt {w : World} {b n : Nat} {F : Int → Option Value} (h : PartMap w b n F) : b < w.heap.size := by
  obtain ⟨D, h1, _⟩ := h
  exact h1.lt
theorem PartMap.keep {w w' : World} {b n : Nat} {F : Int → Option Value} {O : Nat → Prop} (h : PartMap w b n F) (hc : Chg O w w') (hb : ¬ O b) : PartMap w' b n F := by
  have hlt := h.lt
  obtain ⟨D, ⟨es, clock, h1, h2⟩, h3⟩ := h
  exact ⟨D, ⟨es, clock, (hc.block b hlt hb).trans h1, h2⟩, h3⟩
theorem partMap_made (w : World) : PartMap (w.alloc (.map #[] 0)) w.heap.size 0 fun _ => none :=
  ⟨_, World.ownsMap_made w _ _ _, Go.Maps.isMap_empty, rfl, fun j => by simp [DataW.atKey], fun j => by simp [Maps.has]⟩
theorem PartMap.look {w : World} {b n : Nat} {F : Int → Option Value} (h : PartMap w b n F) {j : Int} (hj : I64 j) : (Instr.lookup 102 (.map (some b)) (.int .i64 j) false).run Tryz.prog w = .ok ((F j).getD zeroPart) w := by
  obtain ⟨D, h1, h2, h3, h4, h5⟩ := h
  obtain ⟨v, ps, hrun, hv⟩ := h1.lookup int_law Tryz.underlying102 (zero_part w) (zd := .held zeroPart) (zp := []) rfl (keyOf_int_mk Tryz.underlying3 (wf_i64 hj))
  rw [h4 j] at hv
  unfold heldE at hv
  simp only [Option.some.injEq, Prod.mk.injEq, DataW.held.injEq] at hv
  rw [← hv.1]
  exact hrun
theorem PartMap.lookOk {w : World} {b n : Nat} {F : Int → Option Value} (h : PartMap w b n F) {j : Int} (hj : I64 j) : (Instr.lookup 102 (.map (some b)) (.int .i64 j) true).run Tryz.prog w = .ok (.tuple #[(F j).getD zeroPart, .bool (F j).isSome]) w := by
  obtain ⟨D, h1, h2, h3, h4, h5⟩ := h
  obtain ⟨v, ps, hrun, hv⟩ := h1.look_ok int_law Tryz.underlying102 (zero_part w) (zd := .held zeroPart) (zp := []) rfl (keyOf_int_mk Tryz.underlying3 (wf_i64 hj))
  rw [h4 j] at hv
  rw [h5 j] at hrun
  unfold heldE at hv
  simp only [Option.some.injEq, Prod.mk.injEq, DataW.held.injEq] at hv
  rw [← hv.1]
  exact hrun
theorem size_put_new {D : DataW Value} (hD : IsMap D) {k : Lit} (d : DataW Value) (hn : Maps.has D k = false) : Maps.size (D.put k d) = Maps.size D + 1 := by
  obtain ⟨es, rfl⟩ := hD
  have hf : es.filter (fun p => !p.1.sameKey k) = es := by
    rw [List.filter_eq_self]
    intro p hp
    have : es.any (fun p => p.1.sameKey k) = false := hn
    rw [List.any_eq_false] at this
    simpa using this p hp
  have hi : ∀ (x : Lit × DataW Value) (l : List (Lit × DataW Value)), (DataW.insert x l).length = l.length + 1 := fun x l => by
    induction l with
    | nil => rfl
    | cons y r ih =>
      unfold DataW.insert
      split
      · rfl
      · rw [List.length_cons, ih, List.length_cons]
  show (DataW.insert (k, d) (es.filter fun p => !p.1.sameKey k)).length = es.length + 1
  rw [hf, hi]
theorem PartMap.put {w : World} {b n : Nat} {F : Int → Option Value} (h : PartMap w b n F) (hn : n < maxLen) {j : Int} (hj : I64 j) (v : Value) (hF : F j = none) :
    ∃ w', (Instr.mapUpdate 102 (.map (some b)) (.int .i64 j) v).run Tryz.prog w = .ok () w' ∧ PartMap w' b (n + 1) (fun i => if i = j then some v else F i) ∧ Chg (fun k => k = b) w w' := by
  obtain ⟨D, h1, h2, h3, h4, h5⟩ := h
  obtain ⟨w', hrun, r1, r2⟩ := h1.update int_law Tryz.underlying102 hn (keyOf_int_mk Tryz.underlying3 (wf_i64 hj)) (val := v) (d := .held v) (ps := []) rfl
  refine ⟨w', hrun, ⟨_, r1, h2.put _ _, ?_, fun i => ?_, fun i => ?_⟩, (Chg.of_grown r2).mono (fun k _ hk => (Option.some.inj hk).symm)⟩
  · rw [size_put_new h2 _ (by rw [h5 j, hF]; rfl), h3]
  · by_cases e : i = j
    · subst e
      show _ = DataW.held ((if i = i then some v else F i).getD zeroPart)
      rw [if_pos rfl]
      exact Go.Maps.atKey_put_same h2 (by simp [WideAt.IsKeyLit]) _ _
    · show _ = DataW.held ((if i = j then some v else F i).getD zeroPart)
      rw [if_neg e, Go.Maps.atKey_put_other (by simp [e])]
      exact h4 i
  · by_cases e : i = j
    · subst e
      show _ = (if i = i then some v else F i).isSome
      rw [if_pos rfl, Go.Maps.has_put_same h2 (by simp [WideAt.IsKeyLit])]; rfl
    · show _ = (if i = j then some v else F i).isSome
      rw [if_neg e, Go.Maps.has_put_other (by simp [e])]
      exact h5 i
theorem PartMap.len {w : World} {b n : Nat} {F : Int → Option Value} (h : PartMap w b n F) (ty : TypeId) : (Builtin.len_ #[102] ty #[.map (some b)]).run Tryz.prog w = .ok (.int .i64 n) w := by
  obtain ⟨D, h1, h2, h3, h4, h5⟩ := h
  have := h1.len Tryz.underlying102 ty
  rw [h3] at this
  exact this
end Go.Proofs.YtjiaidchcldocaaGreatDoor
namespace Go.Proofs.YtjiaidchcldocaaGreatDoor
open Go.RowKit

instance : Dat Piece where
  n := 4
  rd w O cs x := ∃ v, cs = [.string (toB x.title), .int .i64 x.at', .int .i64 x.many, v] ∧ PieceOk x ∧ Dat.rd w O [v] x.patch
  bulk x := Dat.bulk x.patch + 30
  pos := by decide
  len := by rintro _ _ _ _ ⟨v, rfl, _⟩; rfl
  one := by
    rintro _ _ _ _ ⟨v, rfl, _, hv⟩ u hu
    simp only [List.mem_cons, List.not_mem_nil, or_false] at hu
    rcases hu with rfl | rfl | rfl | rfl
    · rfl
    · rfl
    · rfl
    · exact Dat.one hv _ (by simp)
  keep := by
    rintro w w' O O' O'' cs l ⟨v, rfl, hp, h⟩ hc k1 k2
    exact ⟨v, rfl, hp, Dat.keep h hc k1 k2⟩
theorem elems_part {w : World} {O : Nat → Prop} {a : Option Addr} {l : List Piece} (h : Elems w O a l) {i : Nat} {x : Piece} (hx : l[i]? = some x) :
    ∃ b off v, a = some ⟨b, off, none⟩ ∧ ¬ O b ∧ b < w.heap.size ∧ w.cell? ⟨b, off + i * 4, none⟩ = some (.string (toB x.title)) ∧ w.cell? ⟨b, off + i * 4 + 1, none⟩ = some (.int .i64 x.at') ∧ w.cell? ⟨b, off + i * 4 + 2, none⟩ = some (.int .i64 x.many) ∧ w.cell? ⟨b, off + i * 4 + 3, none⟩ = some v ∧ PieceOk x ∧ Rdv w O v x.patch := by
  obtain ⟨b, off, es, ha, hb, hcs, v, rfl, hp, hv⟩ := h i x hx
  refine ⟨b, off, v, ha, hb, hcs.lt (by simp), ?_, ?_, ?_, ?_, hp, hv⟩
  · simpa [Dat.n] using hcs 0 _ rfl
  · simpa [Dat.n] using hcs 1 _ rfl
  · simpa [Dat.n] using hcs 2 _ rfl
  · simpa [Dat.n] using hcs 3 _ rfl
theorem elemOk_part : ElemOk Tryz.prog 99 97 4 := elemOk_of Tryz.underlying99 (z := .agg #[.string ⟨#[]⟩, .int .i64 0, .int .i64 0, .slice none 0 0]) (b := 56) (by kernel_rfl) rfl (by decide)
/-- what a map holds of the first parts -/
def Holds (w : World) (ps : List Piece) (F : Int → Option Value) : Prop := ∀ j : Nat, match foundAt ps j with
  | none => F j = none
  | some x => ∃ v, F j = some (partV (toB x.title) x.at' x.many v) ∧ Rdv w Never v x.patch
theorem holds_nil (w : World) : Holds w [] (fun _ => none) := fun _ => rfl
theorem Holds.never {w w' : World} {ps : List Piece} {F : Int → Option Value} (h : Holds w ps F) (hc : Chg Never w w') : Holds w' ps F := fun j => by
  have := h j
  cases e : foundAt ps j with
  | none => rw [e] at this; exact this
  | some x =>
    rw [e] at this
    obtain ⟨v, h1, h2⟩ := this
    exact ⟨v, h1, h2.never hc⟩
theorem Holds.gone {w : World} {ps : List Piece} {F : Int → Option Value} (h : Holds w ps F) {j : Nat} (hn : j ∉ ps.map (·.at')) : F j = none := by
  have := h j
  rw [found_none hn] at this
  exact this
theorem Holds.here {w : World} {ps : List Piece} {F : Int → Option Value} (h : Holds w ps F) {j : Nat} (hn : j ∈ ps.map (·.at')) : ∃ x v, foundAt ps j = some x ∧ x.at' = j ∧ F j = some (partV (toB x.title) x.at' x.many v) ∧ Rdv w Never v x.patch := by
  obtain ⟨x, e, hx⟩ := found_mem hn
  have := h j
  rw [e] at this
  obtain ⟨v, h1, h2⟩ := this
  exact ⟨x, v, e, hx, h1, h2⟩
/-- what is there by number: nothing is an empty patch -/
theorem Holds.patch {w : World} {ps : List Piece} {F : Int → Option Value} (h : Holds w ps F) (j : Nat) : ∃ (t : ByteArray) (a b : Int) (v : Value), (F j).getD zeroPart = partV t a b v ∧ Rdv w Never v (getP ps j) := by
  have := h j
  rw [get_found]
  cases e : foundAt ps j with
  | none =>
    rw [e] at this
    exact ⟨_, _, _, _, by rw [this]; rfl, rdv_nil _ _⟩
  | some x =>
    rw [e] at this
    obtain ⟨v, h1, h2⟩ := this
    exact ⟨_, _, _, _, by rw [h1]; rfl, h2⟩
theorem Holds.step {w : World} {ps : List Piece} {k : Nat} {y : Piece} {F : Int → Option Value} {v : Value} (h : Holds w (ps.take k) F) (hy : ps[k]? = some y) (hn : y.at' ∉ (ps.take k).map (·.at')) (hv : Rdv w Never v y.patch) :
    Holds w (ps.take (k + 1)) (fun i => if i = (y.at' : Int) then some (partV (toB y.title) y.at' y.many v) else F i) := fun j => by
  rw [found_step hy hn]
  by_cases e : j = y.at'
  · subst e
    rw [if_pos rfl]
    exact ⟨v, if_pos rfl, hv⟩
  · rw [if_neg e]
    have := h j
    cases q : foundAt (ps.take k) j with
    | none =>
      rw [q] at this
      show (if (j : Int) = (y.at' : Int) then _ else F j) = _
      rw [if_neg (by omega)]
      exact this
    | some x =>
      rw [q] at this
      obtain ⟨u, h1, h2⟩ := this
      exact ⟨u, by show (if (j : Int) = (y.at' : Int) then _ else F j) = _; rw [if_neg (by omega)]; exact h1, h2⟩
end Go.Proofs.YtjiaidchcldocaaGreatDoor
namespace Go.Proofs.YtjiaidchcldocaaGreatDoor
open Go.RowKit

end Go.Proofs.YtjiaidchcldocaaGreatDoor
namespace Go.Proofs.YtjiaidchcldocaaGreatDoor
open Go.RowKit
theorem elems_row {α : Type} [Dat α] {w : World} {O : Nat → Prop} {a : Option Addr} {l : List (List α)} (h : Elems w O a l) {i : Nat} {x : List α} (hx : l[i]? = some x) :
    ∃ b off v, a = some ⟨b, off, none⟩ ∧ ¬ O b ∧ b < w.heap.size ∧ w.cell? ⟨b, off + i, none⟩ = some v ∧ Rdv w O v x := by
  obtain ⟨b, off, es, ha, hb, hcs, hr⟩ := h i x hx
  obtain ⟨v, rfl⟩ : ∃ v, es = [v] := by
    have hl : es.length = 1 := Dat.len hr
    match es, hl with
    | [v], _ => exact ⟨v, rfl⟩
  refine ⟨b, off, v, ha, hb, hcs.lt (by simp), ?_, hr⟩
  have := hcs 0 v rfl
  simpa [Dat.n] using this
end Go.Proofs.YtjiaidchcldocaaGreatDoor
namespace Go.Proofs.YtjiaidchcldocaaGreatDoor
open Go.RowKit

def gitR (p : List Change) : ByteArray := if (patchFault p).2 = 0 then toB (textG p) else ByteArray.empty
theorem textG_take {p : List Change} {k : Nat} {x : Change} (hx : p[k]? = some x) : textG (p.take (k + 1)) = textG (p.take k) ++ (mmL ++ fromL x.what x.path.data.toList ++ [10] ++ (ppL ++ toL x.what x.path.data.toList ++ [10]) ++ textU x.hunks) := by
  unfold textG linesG textU
  rw [List.take_add_one, hx, Option.toList_some, List.flatMap_append, textL_app]
  congr 1
  simp only [List.flatMap_cons, List.flatMap_nil, List.append_nil]
  show textL ((mmL ++ fromL x.what x.path.data.toList) :: (ppL ++ toL x.what x.path.data.toList) :: linesU x.hunks) = _
  simp [textL]
theorem textG_mono {p : List Change} {k : Nat} : (textG (p.take k)).length ≤ (textG p).length := by
  conv => rhs; rw [← List.take_append_drop k p]
  unfold textG linesG
  rw [List.flatMap_append, textL_app, List.length_append]
  omega
/-- a change's two lines, as the walk writes them -/
theorem two_lines (f t : List UInt8) : toB mmL ++ toB f ++ toB [10, 43, 43, 43, 32] ++ toB t ++ toB [10] = toB (mmL ++ f ++ [10] ++ (ppL ++ t ++ [10])) := by
  apply ByteArray.ext
  apply Array.toList_inj.1
  simp only [bytes_append, toB_data]
  unfold ppL
  simp
theorem patch_each {p : List Change} (e : (patchFault p).2 = 0) : p.length ≤ 16 ∧ ∀ c ∈ p, changeFault c = 0 := by
  unfold patchFault at e
  by_cases h : 16 < p.length
  · rw [if_pos h] at e; cases e
  · rw [if_neg h] at e
    exact ⟨by omega, (patchGo_zero p 0 none e).1⟩

theorem gp_str (w : Int) (path F T : ByteArray) (hF : F = toB (fromL w path.data.toList)) (hT : T = toB (toL w path.data.toList)) :
    (⟨#[45, 45, 45, 32]⟩ : ByteArray) ++ F ++ ⟨#[10, 43, 43, 43, 32]⟩ ++ T ++ ⟨#[10]⟩ = toB (mmL ++ fromL w path.data.toList ++ [10] ++ (ppL ++ toL w path.data.toList ++ [10])) := by
  subst hF hT
  exact two_lines _ _
theorem gp_pre (a b : UInt8) (path : ByteArray) : (⟨#[a, b]⟩ : ByteArray) ++ path = toB ([a, b] ++ path.data.toList) := by
  apply ByteArray.ext
  apply Array.toList_inj.1
  rw [bytes_append, toB_data]
set_option maxHeartbeats 2000000 in
set_option maxRecDepth 100000 in
theorem gitprint_any (p : List Change) (v : Value) (w : World) (h : Rdv w Never v p) (m : Int) (hm : w.cell? ⟨1, 0, none⟩ = some (.int .i64 m)) :
    Calls Tryz.prog 29 #[v] w fun e w' => e = .returned (.tuple #[.string (gitR p), errV (patchFault p).2]) ∧ Chg Never w w' := by
  by_cases hz : (patchFault p).2 = 0
  · obtain ⟨p16, pall⟩ := patch_each hz
    have hTL := (changes_ok p pall).2
    have HALL := Lib.hid pall
    have HZ := Lib.hid hz
    have HR : Hid (gitR p = ⟨(textG p).toArray⟩) := by unfold Hid gitR; rw [if_pos hz]; rfl
    have hv := h
    obtain ⟨a, cap, rfl, h1, h2, -⟩ := rdv_slice h
    unfold maxLen at h2
    clear hz pall h
    go_enter Tryz.func29, Tryz.ntmps29
    go_wp2_with fail
    refine (patch_check_any p _ _ hv m hm).mono ?_
    rintro e w1 ⟨rfl, hc1⟩
    rw [HZ.out, errV_zero]
    generalize (patchFault p).1 = at0
    go_wp2_with fail
    have hv1 : Rdv w1 (From w1.heap.size) (.slice a p.length cap) p := hv.keep hc1 (fun _ _ h => h.elim) (fun k hk h => by unfold From at h; have := hc1.size; omega)
    obtain ⟨a', cap', hq, -, -, h3⟩ := rdv_slice hv1
    injection hq with hq1 _ hq2
    subst hq1 hq2
    go_loopw [21] (fun i wr => ∃ k : Nat, k ≤ p.length ∧ i = .int .i64 k ∧ IsB w1.heap.size w1.heap.size (Lib.byteCells (textG (p.take k))) wr ∧ Below w1.heap.size w1 wr) (fun i _ => p.length - (intOf i).toNat)
    case atStart => exact ⟨0, Nat.zero_le _, rfl, Lib.IsBuilderF.of (Lib.fresh_isBuilder _ _ w1), (Below.refl _ w1).alloc (Nat.le_refl _) _⟩
    case round =>
      obtain ⟨k, hk, rfl, hI, hb⟩ := hrel
      rename World => wr
      have hbs := hb.size
      by_cases hlt : k < p.length
      · obtain ⟨x, hx⟩ : ∃ x, p[k]? = some x := ⟨p[k], by simp [hlt]⟩
        obtain ⟨b', off, mv, rfl, hnb, -, c0, c1, c2, hxp, hmv⟩ := elems_change h3 hx
        have hcb := chg_below hb
        have c0 := hcb.cell c0 hnb
        have c1 := hcb.cell c1 hnb
        have c2 := hcb.cell c2 hnb
        have hmr : Rdv wr (From w1.heap.size) mv x.hunks := hmv.keep hcb (fun _ _ h => h) (fun _ _ h => h)
        obtain ⟨ma, mc, rfl, -, -, -⟩ := rdv_slice hmv
        obtain ⟨x1, x2, x3⟩ := change_ok (HALL.out x (List.mem_of_getElem? hx))
        obtain ⟨xl, -⟩ := path_fine x2
        have X3 := Lib.hid x3
        obtain ⟨ff1, -, ff2, -⟩ := from_fine x.what (path_fine x2)
        have HT := Lib.hid (textG_take hx)
        have hTk := @textG_mono p k
        have hTk1 := @textG_mono p (k + 1)
        have hA : Chg Never wr (wr.alloc (.cells #[.int .i64 x.what, .string x.path, .slice ma x.hunks.length mc] 85)) := (Chg.refl Never wr).alloc _
        have hbox := Blk3.new wr 85 (.int .i64 x.what) (.string x.path) (.slice ma x.hunks.length mc)
        have hbne : wr.heap.size ≠ w1.heap.size := by
          have : w1.heap.size < wr.heap.size := hI.elim (fun q => q.lt) (fun q => q.lt)
          omega
        obtain ⟨g0, g1, g2⟩ := hbox.cell
        have hIA := bld_keep hI hA
        have hmA := hmr.never hA
        have hbA := hb.trans (hA.never.mono hbs)
        have hpz : x.path.size ≤ 20 := by rw [Lib.size_eq]; exact xl
        have n1 : ¬ (9223372036854775807 < 2 + x.path.size) := by omega
        clear hx h3 hI hmr hmv x2 x3 xl
        go_wp2_with fail
        clear c0 c1 c2
        generalize wr.alloc (.cells #[.int .i64 x.what, .string x.path, .slice ma x.hunks.length mc] 85) = wA at hA hbox g0 g1 g2 hIA hmA hbA ⊢
        go_quiet (fail)
        have hcd : Chg Never wA (wA.drewN nq) := (Chg.refl Never wA).drewN nq
        have hbox2 := hbox.keep hcd (fun h => h)
        have hI2 := bld_keep hIA hcd
        have hm2 := hmA.never hcd
        have hb2 := hbA.trans (hcd.never.mono (Nat.le_trans hbs hA.size))
        generalize wA.drewN nq = w2 at hbox2 hI2 hm2 hb2 ⊢
        obtain ⟨g0, g1, g2⟩ := hbox2.cell
        clear hcd hbox hIA hmA hbA hA
        have hbs' : w1.heap.size ≤ w1.heap.size := Nat.le_refl _
        rcases x1 with x1 | x1 | x1
        · have q2 : (x.what == 2) = false := by rw [x1]; rfl
          have q3 : (x.what == 3) = false := by rw [x1]; rfl
          have XW := Lib.hid x1
          have HS : Hid ((⟨#[45, 45, 45, 32]⟩ : ByteArray) ++ ((⟨#[97, 47]⟩ : ByteArray) ++ x.path) ++ ⟨#[10, 43, 43, 43, 32]⟩ ++ ((⟨#[98, 47]⟩ : ByteArray) ++ x.path) ++ ⟨#[10]⟩ = toB (mmL ++ fromL x.what x.path.data.toList ++ [10] ++ (ppL ++ toL x.what x.path.data.toList ++ [10]))) := gp_str _ _ _ _ (by (rw [XW.out]; exact gp_pre 97 47 x.path)) (by (rw [XW.out]; exact gp_pre 98 47 x.path))
          have hLl : (mmL ++ fromL x.what x.path.data.toList ++ [10] ++ (ppL ++ toL x.what x.path.data.toList ++ [10])).length ≤ 60 := by
            simp only [List.length_append, List.length_cons, List.length_nil] at ff1 ff2 ⊢
            omega
          have hFz : ((⟨#[97, 47]⟩ : ByteArray) ++ x.path : ByteArray).size ≤ 22 := by (rw [ByteArray.size_append]; show 2 + x.path.size ≤ 22; omega)
          have hTz : ((⟨#[98, 47]⟩ : ByteArray) ++ x.path : ByteArray).size ≤ 22 := by (rw [ByteArray.size_append]; show 2 + x.path.size ≤ 22; omega)
          clear x1
          go_wp2_with fail
          clear g0 g1 g2
          have hbl : (Lib.byteCells (textG (p.take k))).length ≤ 181440 := by rw [Lib.byteCells_length]; omega
          refine (bldk_string w1.heap.size w1.heap.size _ _ _ hI2 (by rw [HS.out, toB_size']; omega) (Nat.le_trans hbs' hb2.size)).mono ?_
          rintro e w4 ⟨rfl, hI4, b4, k4⟩
          rw [HS.out, cells_toB, ← Lib.byteCells_append] at hI4
          have hc4 := chg_below b4
          have hm4 : Rdv w4 (From w1.heap.size) (.slice ma x.hunks.length mc) x.hunks := hm2.keep hc4 (fun _ _ h => h) (fun _ _ h => h)
          obtain ⟨-, -, g2⟩ := (k4.blk3 hbox2 hbne (by decide)).cell
          have hb4 := hb2.trans b4
          clear hm2 hI2 k4 hbox2 HS hc4
          go_wp2_with fail
          clear g2
          refine (write_any w1.heap.size w1.heap.size _ x.hunks _ _ hm4 (.inr hI4) X3.out (by rw [Lib.byteCells_length, List.length_append]; rw [Lib.byteCells_length] at hbl; omega) (Nat.le_trans hbs' hb4.size)).mono ?_
          rintro e w5 ⟨rfl, hI5, b5⟩
          rw [← Lib.byteCells_append, List.append_assoc, ← HT.out] at hI5
          go_wp2_with fail
          go_roundw
          case rel => exact ⟨k + 1, by omega, by go_num, hI5, hb4.trans b5⟩
          case measure => simp [intOf]; omega
        · have q2 : (x.what == 2) = true := by rw [x1]; rfl
          have q3 : (x.what == 3) = false := by rw [x1]; rfl
          have XW := Lib.hid x1
          have HS : Hid ((⟨#[45, 45, 45, 32]⟩ : ByteArray) ++ ((⟨#[47, 100, 101, 118, 47, 110, 117, 108, 108]⟩ : ByteArray)) ++ ⟨#[10, 43, 43, 43, 32]⟩ ++ ((⟨#[98, 47]⟩ : ByteArray) ++ x.path) ++ ⟨#[10]⟩ = toB (mmL ++ fromL x.what x.path.data.toList ++ [10] ++ (ppL ++ toL x.what x.path.data.toList ++ [10]))) := gp_str _ _ _ _ (by (rw [XW.out]; rfl)) (by (rw [XW.out]; exact gp_pre 98 47 x.path))
          have hLl : (mmL ++ fromL x.what x.path.data.toList ++ [10] ++ (ppL ++ toL x.what x.path.data.toList ++ [10])).length ≤ 60 := by
            simp only [List.length_append, List.length_cons, List.length_nil] at ff1 ff2 ⊢
            omega
          have hFz : ((⟨#[47, 100, 101, 118, 47, 110, 117, 108, 108]⟩ : ByteArray) : ByteArray).size ≤ 22 := by decide
          have hTz : ((⟨#[98, 47]⟩ : ByteArray) ++ x.path : ByteArray).size ≤ 22 := by (rw [ByteArray.size_append]; show 2 + x.path.size ≤ 22; omega)
          clear x1
          go_wp2_with fail
          clear g0 g1 g2
          have hbl : (Lib.byteCells (textG (p.take k))).length ≤ 181440 := by rw [Lib.byteCells_length]; omega
          refine (bldk_string w1.heap.size w1.heap.size _ _ _ hI2 (by rw [HS.out, toB_size']; omega) (Nat.le_trans hbs' hb2.size)).mono ?_
          rintro e w4 ⟨rfl, hI4, b4, k4⟩
          rw [HS.out, cells_toB, ← Lib.byteCells_append] at hI4
          have hc4 := chg_below b4
          have hm4 : Rdv w4 (From w1.heap.size) (.slice ma x.hunks.length mc) x.hunks := hm2.keep hc4 (fun _ _ h => h) (fun _ _ h => h)
          obtain ⟨-, -, g2⟩ := (k4.blk3 hbox2 hbne (by decide)).cell
          have hb4 := hb2.trans b4
          clear hm2 hI2 k4 hbox2 HS hc4
          go_wp2_with fail
          clear g2
          refine (write_any w1.heap.size w1.heap.size _ x.hunks _ _ hm4 (.inr hI4) X3.out (by rw [Lib.byteCells_length, List.length_append]; rw [Lib.byteCells_length] at hbl; omega) (Nat.le_trans hbs' hb4.size)).mono ?_
          rintro e w5 ⟨rfl, hI5, b5⟩
          rw [← Lib.byteCells_append, List.append_assoc, ← HT.out] at hI5
          go_wp2_with fail
          go_roundw
          case rel => exact ⟨k + 1, by omega, by go_num, hI5, hb4.trans b5⟩
          case measure => simp [intOf]; omega
        · have q2 : (x.what == 2) = false := by rw [x1]; rfl
          have q3 : (x.what == 3) = true := by rw [x1]; rfl
          have XW := Lib.hid x1
          have HS : Hid ((⟨#[45, 45, 45, 32]⟩ : ByteArray) ++ ((⟨#[97, 47]⟩ : ByteArray) ++ x.path) ++ ⟨#[10, 43, 43, 43, 32]⟩ ++ ((⟨#[47, 100, 101, 118, 47, 110, 117, 108, 108]⟩ : ByteArray)) ++ ⟨#[10]⟩ = toB (mmL ++ fromL x.what x.path.data.toList ++ [10] ++ (ppL ++ toL x.what x.path.data.toList ++ [10]))) := gp_str _ _ _ _ (by (rw [XW.out]; exact gp_pre 97 47 x.path)) (by (rw [XW.out]; rfl))
          have hLl : (mmL ++ fromL x.what x.path.data.toList ++ [10] ++ (ppL ++ toL x.what x.path.data.toList ++ [10])).length ≤ 60 := by
            simp only [List.length_append, List.length_cons, List.length_nil] at ff1 ff2 ⊢
            omega
          have hFz : ((⟨#[97, 47]⟩ : ByteArray) ++ x.path : ByteArray).size ≤ 22 := by (rw [ByteArray.size_append]; show 2 + x.path.size ≤ 22; omega)
          have hTz : ((⟨#[47, 100, 101, 118, 47, 110, 117, 108, 108]⟩ : ByteArray) : ByteArray).size ≤ 22 := by decide
          clear x1
          go_wp2_with fail
          clear g0 g1 g2
          have hbl : (Lib.byteCells (textG (p.take k))).length ≤ 181440 := by rw [Lib.byteCells_length]; omega
          refine (bldk_string w1.heap.size w1.heap.size _ _ _ hI2 (by rw [HS.out, toB_size']; omega) (Nat.le_trans hbs' hb2.size)).mono ?_
          rintro e w4 ⟨rfl, hI4, b4, k4⟩
          rw [HS.out, cells_toB, ← Lib.byteCells_append] at hI4
          have hc4 := chg_below b4
          have hm4 : Rdv w4 (From w1.heap.size) (.slice ma x.hunks.length mc) x.hunks := hm2.keep hc4 (fun _ _ h => h) (fun _ _ h => h)
          obtain ⟨-, -, g2⟩ := (k4.blk3 hbox2 hbne (by decide)).cell
          have hb4 := hb2.trans b4
          clear hm2 hI2 k4 hbox2 HS hc4
          go_wp2_with fail
          clear g2
          refine (write_any w1.heap.size w1.heap.size _ x.hunks _ _ hm4 (.inr hI4) X3.out (by rw [Lib.byteCells_length, List.length_append]; rw [Lib.byteCells_length] at hbl; omega) (Nat.le_trans hbs' hb4.size)).mono ?_
          rintro e w5 ⟨rfl, hI5, b5⟩
          rw [← Lib.byteCells_append, List.append_assoc, ← HT.out] at hI5
          go_wp2_with fail
          go_roundw
          case rel => exact ⟨k + 1, by omega, by go_num, hI5, hb4.trans b5⟩
          case measure => simp [intOf]; omega
      · rw [List.take_of_length_le (by omega)] at hI
        go_wp2_with fail
        refine (Tryz.Builder_String_any_k w1.heap.size w1.heap.size (textG p) _ hI hbs).mono ?_
        rintro e w4 ⟨rfl, _, b4, _⟩
        go_wp2_with fail
        go_ret2
        exact ⟨by rw [HR.out, HZ.out]; rfl, hc1.trans (Chg.of_below (hb.trans b4))⟩
  · have HR : Hid (gitR p = ByteArray.empty) := if_neg hz
    have HZ := Lib.hid hz
    obtain ⟨a, cap, rfl, -, -, -⟩ := rdv_slice h
    go_enter Tryz.func29, Tryz.ntmps29
    go_wp2_with fail
    refine (patch_check_any p _ _ h m hm).mono ?_
    rintro e w1 ⟨rfl, hc1⟩
    rw [errV_pos hz]
    generalize (patchFault p).1 = at0
    clear hz
    go_wp2_with fail
    go_ret2
    exact ⟨by rw [HR.out, errV_pos HZ.out]; rfl, hc1⟩
end Go.Proofs.YtjiaidchcldocaaGreatDoor
namespace Go.Proofs.YtjiaidchcldocaaGreatDoor
open Go.RowKit

/-! ### a patch's text by lines -/
theorem firstOf_from {α : Type} {f : α → Int} {l : List α} {k : Nat} {x : α} (h : firstOf f (l.drop k) = firstOf f l) (hx : l[k]? = some x) : (f x = 0 → firstOf f (l.drop (k + 1)) = firstOf f l) ∧ (f x ≠ 0 → firstOf f l = f x) := by
  rw [drop_eq hx, firstOf] at h
  constructor
  · intro e; rw [if_pos e] at h; exact h
  · intro e; rw [if_neg e] at h; exact h.symm
end Go.Proofs.YtjiaidchcldocaaGreatDoor
namespace Go.Proofs.YtjiaidchcldocaaGreatDoor
open Go.RowKit

theorem own_made {α : Type} [Dat α] (w : World) (e : TypeId) : Own e (w.alloc (.cells #[] e)) (Old w.heap.size) (.slice (some ⟨w.heap.size, 0, none⟩) 0 0) ([] : List α) :=
  ⟨[], World.ownsRow_made w #[] 0 (Nat.zero_le _) (by unfold maxLen; omega) (by simp), fun k hk ho => by
    simp only [Value.ownBlock, Option.some.injEq] at hk
    subst hk
    unfold Old at ho
    omega, fun i x hi => by simp at hi⟩

set_option maxHeartbeats 800000 in
set_option maxRecDepth 100000 in
theorem clone_str (O : Nat → Prop) (l : List ByteArray) (v : Value) (w : World) (h : Rdv w O v l) (hl : l.length ≤ 1000000) :
    Calls Tryz.prog 92 #[v] w fun e w' => ∃ r, e = .returned r ∧ Chg Never w w' ∧ Own 9 w' (Old w.heap.size) r l := by
  obtain ⟨a, cap, rfl, h1, h2, h3⟩ := rdv_slice h
  unfold maxLen at h2
  cases a with
  | none =>
    have hn : l = [] := by
      cases l with
      | nil => rfl
      | cons x l =>
        obtain ⟨b, off, es, ha, _⟩ := h3 0 x rfl
        cases ha
    subst hn
    have he : ∀ wx, (binOp .eql 86 (.slice none 0 cap) (.slice none 0 0)).run Tryz.prog wx = .ok (.bool true) wx := fun wx => Lib.run_eql_slice_nil wx 86 9 none 0 cap 0 0 Tryz.underlying86
    go_enter Tryz.func92, Tryz.ntmps92
    go_wp2_with fail
    go_ret
    exact ⟨_, rfl, Chg.refl _ _, own_nil _ _ _⟩
  | some a =>
    have hm := own_made (α := ByteArray) w 9
    have hA : Chg Never w (w.alloc (.cells #[] 9)) := (Chg.refl Never w).alloc _
    have hr := (h.sub (O' := Never) (fun _ _ h => h.elim)).never hA
    have hO : ∀ k, Old w.heap.size k → k < (w.alloc (.cells #[] 9)).heap.size := by
      intro k hk
      unfold Old at hk
      simp
      omega
    have hle : ([] : List ByteArray).length + l.length ≤ 1000000000 := by simp; omega
    clear h3 h
    have he : ∀ wx, (binOp .eql 86 (.slice (some a) l.length cap) (.slice none 0 0)).run Tryz.prog wx = .ok (.bool false) wx := fun wx => Lib.run_eql_slice_nil wx 86 9 (some a) l.length cap 0 0 Tryz.underlying86
    go_enter Tryz.func92, Tryz.ntmps92
    go_wp2_with (at_builtin; refine wpList_many (by rfl) _ _ 86 (by rfl) elemOk_str (O := Old w.heap.size) (by rfl) (by rfl) hm hr (rd_str_any _ _ _) hO hle ?_; intro v' w5 hown2 hc2)
    have hc3 := own_step hA hm hc2
    clear hm hr hc2
    go_wp2_with fail
    go_ret
    exact ⟨_, rfl, hc3, hown2⟩
end Go.Proofs.YtjiaidchcldocaaGreatDoor
namespace Go.Proofs.YtjiaidchcldocaaGreatDoor
open Go.RowKit

/-! ### elements and their cells -/
def RdL {α : Type} [Dat α] (w : World) (O : Nat → Prop) : List α → List (List Value) → Prop
  | [], [] => True
  | x :: l, c :: r => Dat.rd w O c x ∧ RdL w O l r
  | _, _ => False
theorem RdL.len {α : Type} [Dat α] {w : World} {O : Nat → Prop} : ∀ {l : List α} {r : List (List Value)}, RdL w O l r → r.length = l.length ∧ ∀ c ∈ r, c.length = Dat.n α
  | [], [], _ => ⟨rfl, by simp⟩
  | x :: l, c :: r, h => by
    obtain ⟨h1, h2⟩ := RdL.len h.2
    refine ⟨by rw [List.length_cons, List.length_cons, h1], fun y hy => ?_⟩
    rcases List.mem_cons.1 hy with rfl | hy
    · exact Dat.len h.1
    · exact h2 y hy
  | [], _ :: _, h => h.elim
  | _ :: _, [], h => h.elim
theorem RdL.one {α : Type} [Dat α] {w : World} {O : Nat → Prop} : ∀ {l : List α} {r : List (List Value)}, RdL w O l r → ∀ c ∈ r, ∀ u ∈ c, u.oneCell' = true
  | [], [], _ => by simp
  | x :: l, c :: r, h => by
    intro y hy
    rcases List.mem_cons.1 hy with rfl | hy
    · exact Dat.one h.1
    · exact RdL.one h.2 y hy
  | [], _ :: _, h => h.elim
  | _ :: _, [], h => h.elim
theorem RdL.take {α : Type} [Dat α] {w : World} {O : Nat → Prop} : ∀ {l : List α} {r : List (List Value)} (k : Nat), RdL w O l r → RdL w O (l.take k) (r.take k)
  | _, _, 0, _ => trivial
  | [], [], _ + 1, _ => trivial
  | _ :: _, _ :: _, k + 1, h => ⟨h.1, RdL.take k h.2⟩
  | [], _ :: _, _ + 1, h => h.elim
  | _ :: _, [], _ + 1, h => h.elim
theorem RdL.drop {α : Type} [Dat α] {w : World} {O : Nat → Prop} : ∀ {l : List α} {r : List (List Value)} (k : Nat), RdL w O l r → RdL w O (l.drop k) (r.drop k)
  | _, _, 0, h => h
  | [], [], _ + 1, _ => trivial
  | _ :: _, _ :: _, k + 1, h => RdL.drop k h.2
  | [], _ :: _, _ + 1, h => h.elim
  | _ :: _, [], _ + 1, h => h.elim
theorem RdL.app {α : Type} [Dat α] {w : World} {O : Nat → Prop} : ∀ {l m : List α} {r s : List (List Value)}, RdL w O l r → RdL w O m s → RdL w O (l ++ m) (r ++ s)
  | [], _, [], _, _, g => g
  | _ :: _, _, _ :: _, _, h, g => ⟨h.1, RdL.app h.2 g⟩
  | [], _, _ :: _, _, h, _ => h.elim
  | _ :: _, _, [], _, h, _ => h.elim
theorem RdL.keep {α : Type} [Dat α] {w w' : World} {O O' O'' : Nat → Prop} (hc : Chg O' w w') (h1 : ∀ k, k < w.heap.size → O' k → O k) (h2 : ∀ k, k < w.heap.size → O'' k → O k) : ∀ {l : List α} {r : List (List Value)}, RdL w O l r → RdL w' O'' l r
  | [], [], _ => trivial
  | _ :: _, _ :: _, h => ⟨Dat.keep h.1 hc h1 h2, RdL.keep hc h1 h2 h.2⟩
  | [], _ :: _, h => h.elim
  | _ :: _, [], h => h.elim
theorem RdL.get {α : Type} [Dat α] {w : World} {O : Nat → Prop} : ∀ {l : List α} {r : List (List Value)}, RdL w O l r → ∀ (i : Nat) (x : α), l[i]? = some x → Dat.rd w O ((r.flatten.drop (i * Dat.n α)).take (Dat.n α)) x
  | [], [], _, i, x, hx => by simp at hx
  | y :: l, c :: r, h, 0, x, hx => by
    simp only [List.getElem?_cons_zero, Option.some.injEq] at hx
    subst hx
    have e : ((c :: r).flatten.drop (0 * Dat.n α)).take (Dat.n α) = c := by
      rw [Nat.zero_mul, List.drop_zero, List.flatten_cons, ← Dat.len h.1, List.take_left]
    rw [e]; exact h.1
  | y :: l, c :: r, h, i + 1, x, hx => by
    have := RdL.get h.2 i x (by simpa using hx)
    have e : (c :: r).flatten.drop ((i + 1) * Dat.n α) = r.flatten.drop (i * Dat.n α) := by
      rw [List.flatten_cons, Nat.succ_mul, Nat.add_comm, ← List.drop_drop, ← Dat.len h.1, List.drop_left]
    rw [e]; exact this
  | [], _ :: _, h, _, _, _ => h.elim
  | _ :: _, [], h, _, _, _ => h.elim
theorem rdl_of {α : Type} [Dat α] {w : World} {O : Nat → Prop} : ∀ (l : List α) (xs : List Value), xs.length = l.length * Dat.n α → (∀ (i : Nat) (x : α), l[i]? = some x → Dat.rd w O ((xs.drop (i * Dat.n α)).take (Dat.n α)) x) → ∃ r, RdL w O l r ∧ r.flatten = xs
  | [], xs, h, _ => ⟨[], trivial, by
    have : xs = [] := List.eq_nil_of_length_eq_zero (by rw [h]; simp)
    rw [this]; rfl⟩
  | x :: l, xs, h, g => by
    obtain ⟨r, h1, h2⟩ := rdl_of l (xs.drop (Dat.n α)) (by rw [List.length_drop, h, List.length_cons, Nat.succ_mul]; omega) (fun i y hy => by
      have := g (i + 1) y (by simpa using hy)
      rw [List.drop_drop]
      rwa [show Dat.n α + i * Dat.n α = (i + 1) * Dat.n α by rw [Nat.succ_mul, Nat.add_comm]])
    have := g 0 x rfl
    rw [Nat.zero_mul, List.drop_zero] at this
    exact ⟨xs.take (Dat.n α) :: r, ⟨this, h1⟩, by rw [List.flatten_cons, h2, List.take_append_drop]⟩
theorem cells_len {q : Nat} : ∀ {r : List (List Value)}, (∀ c ∈ r, c.length = q) → r.flatten.length = r.length * q
  | [], _ => by simp
  | c :: r, h => by
    rw [List.flatten_cons, List.length_append, cells_len (r := r) (fun x hx => h x (List.mem_cons_of_mem _ hx)), h c (List.mem_cons_self ..), List.length_cons, Nat.succ_mul, Nat.add_comm]
theorem cells_take {q : Nat} : ∀ (r : List (List Value)) (k : Nat), (∀ c ∈ r, c.length = q) → r.flatten.take (k * q) = (r.take k).flatten
  | _, 0, _ => by simp
  | [], _ + 1, _ => by simp
  | c :: r, k + 1, h => by
    have e := h c (List.mem_cons_self ..)
    rw [List.take_succ_cons, List.flatten_cons, List.flatten_cons, ← cells_take r k (fun x hx => h x (List.mem_cons_of_mem _ hx)), Nat.succ_mul, Nat.add_comm, ← e, List.take_length_add_append]
theorem cells_drop {q : Nat} : ∀ (r : List (List Value)) (k : Nat), (∀ c ∈ r, c.length = q) → r.flatten.drop (k * q) = (r.drop k).flatten
  | _, 0, _ => by simp
  | [], _ + 1, _ => by simp
  | c :: r, k + 1, h => by
    have e := h c (List.mem_cons_self ..)
    rw [List.drop_succ_cons, List.flatten_cons, ← cells_drop r k (fun x hx => h x (List.mem_cons_of_mem _ hx)), Nat.succ_mul, Nat.add_comm, ← List.drop_drop, ← e, List.drop_left]

/-! ### a row's own block -/
theorem own_rows {α : Type} [Dat α] {e : TypeId} {w : World} {O : Nat → Prop} {v : Value} {l : List α} (h : Own e w O v l) (hl : 0 < l.length) :
    ∃ (g cap : Nat) (r : List (List Value)) (tail : List Value), v = .slice (some ⟨g, 0, none⟩) l.length cap ∧ w.heap[g]? = some (.cells (r.flatten ++ tail).toArray e (0, 0)) ∧ (r.flatten ++ tail).length = cap * Dat.n α ∧ l.length ≤ cap ∧ cap ≤ maxLen ∧ ¬ O g ∧ RdL w (fun k => O k ∨ k = g) l r := by
  obtain ⟨xs, hx, hO, hr⟩ := h
  rcases hx.2 with ⟨_, h0⟩ | ⟨g, cap, cur, rfl, _, hg, hle, hcm, hcs, htk⟩
  · omega
  · have hr' : ∀ (i : Nat) (x : α), l[i]? = some x → Dat.rd w (fun k => O k ∨ k = g) ((xs.drop (i * Dat.n α)).take (Dat.n α)) x := fun i x hx => Dat.keep (hr i x hx) (Chg.refl Never w) (fun _ _ h => h.elim) (fun k _ hk => hk.imp_right (fun e => by rw [e]; rfl))
    obtain ⟨r, h1, h2⟩ := rdl_of l xs hx.1 hr'
    have e : r.flatten ++ cur.toList.drop (l.length * Dat.n α) = cur.toList := by rw [h2, ← htk, List.take_append_drop]
    refine ⟨g, cap, r, cur.toList.drop (l.length * Dat.n α), rfl, by rw [e]; exact hg, by rw [e]; simpa using hcs, hle, hcm, hO g rfl, h1⟩
theorem own_laid {α : Type} [Dat α] {e : TypeId} {w : World} {O : Nat → Prop} {l : List α} {g cap : Nat} {r : List (List Value)} {tail : List Value} (hg : w.heap[g]? = some (.cells (r.flatten ++ tail).toArray e (0, 0))) (hs : (r.flatten ++ tail).length = cap * Dat.n α) (hle : l.length ≤ cap) (hcm : cap ≤ maxLen) (hO : ¬ O g)
    (hr : RdL w (fun k => O k ∨ k = g) l r) : Own e w O (.slice (some ⟨g, 0, none⟩) l.length cap) l := by
  have hl : r.flatten.length = l.length * Dat.n α := by rw [cells_len hr.len.2, hr.len.1]
  refine ⟨r.flatten, ⟨hl, .inr ⟨g, cap, _, rfl, Nat.zero_le _, hg, hle, hcm, by simpa using hs, ?_⟩⟩, ?_, ?_⟩
  · rw [← hl]; exact List.take_left
  · intro k hk
    injection hk with hk
    subst hk
    exact hO
  · intro i x hx
    exact Dat.keep (hr.get i x hx) (Chg.refl Never w) (fun _ _ h => h.elim) (fun k _ hk => hk.imp_right (fun e => by injection e with e; exact e.symm))
theorem chg_setRow (w : World) (g : Nat) (cs : Array Value) : Chg (fun k => k = g) w (w.setRow g cs) :=
  ⟨rfl, rfl, rfl, by simp [World.setRow], fun k _ hk => setRow_other w g k cs hk⟩
theorem row_cell {w : World} {g : Nat} {L : List Value} {e : TypeId} (h : w.heap[g]? = some (.cells L.toArray e (0, 0))) {j : Nat} {u : Value} (hu : L[j]? = some u) : w.cell? ⟨g, j, none⟩ = some u := by
  simp only [World.cell?, h]
  simpa using hu
/-! ### the builtins -/
theorem run_copy_at {P : Program} (w : World) {dT sT ty e : TypeId} {i : TypeInfo} (ht : P.underlying dT = some (.slice e)) (hi : P.info? e = some i) {g d dLen dCap : Nat} {a : Addr} {sLen sCap : Nat} {cs L : List Value}
    (hg : w.heap[g]? = some (.cells L.toArray e (0, 0))) (hn : cs.length = Nat.min sLen dLen * i.size) (hsrc : ∀ j u, cs[j]? = some u → w.cell? (a.add j) = some u) (hfit : d + cs.length ≤ L.length) (h1 : ∀ u ∈ cs, u.oneCell' = true) :
    (Builtin.copy_ #[dT, sT] ty #[.slice (some ⟨g, d, none⟩) dLen dCap, .slice (some a) sLen sCap]).run P w = .ok (goInt (Nat.min sLen dLen)) (w.setRow g (L.take d ++ cs ++ L.drop (d + cs.length)).toArray) := by
  have hf := run_firstCells_some (P := P) w i.size (Nat.min sLen dLen) a sLen sCap cs hn hsrc
  have hst := run_storeCells_at P g d e cs 0 L.toArray w hg (by simpa using hfit) h1
  simp only [Nat.add_zero] at hst
  simp [Builtin.copy_, run_underlying ht, Builtin.lenOf, sizeOf, typeInfo, hi, hf, hst]
theorem run_clear_at {P : Program} (w : World) {t ty e : TypeId} {z : Value} (ht : P.underlying t = some (.slice e)) (hz : ∀ w, (zeroValue e).run P w = .ok z w) {g d c : Nat} {L zs : List Value} (hzs : (Builtin.zeroCells z.cells 1).toList = zs)
    (hg : w.heap[g]? = some (.cells L.toArray e (0, 0))) (hfit : d + zs.length ≤ L.length) (h1 : ∀ u ∈ zs, u.oneCell' = true) :
    (Builtin.clear_ #[t] ty #[.slice (some ⟨g, d, none⟩) 1 c]).run P w = .ok (.tuple #[]) (w.setRow g (L.take d ++ zs ++ L.drop (d + zs.length)).toArray) := by
  have hst := run_storeCells_at P g d e zs 0 L.toArray w hg (by simpa using hfit) h1
  simp only [Nat.add_zero] at hst
  simp [Builtin.clear_, run_underlying ht, hz, hzs, hst]
theorem step_append_eq {P : Program} {ops : Array Oper} {o : Oper} {a : Act} {w : World} {K : Act → World → Prop} {Q : Exit → Act → World → Prop} {E : Prop} (hgd : o.guard = none) (s x : Operand) (t tn : TypeId)
    (ho : o.op = .call { callee := .builtin .append, args := #[s, x], argTypes := #[t, tn] }) (vs vx : Value) (hs : a.eval s = vs) (hx : a.eval x = vx) {v' : Value} {w' : World} (hr : (Builtin.append_ #[t, tn] o.type #[vs, vx]).run P w = .ok v' w') (h : K (a.put o.dst v') w') :
    if Region.wanted o (yielded ops a.tmps) = true then Oper.wp P o a w K Q else E := by
  have hw : Region.wanted o (yielded ops a.tmps) = true := by simp [Region.wanted, hgd]
  rw [if_pos hw]
  exact Lib.wp_append_run w s x t tn ho vs vx hs hx v' w' hr h
theorem wp_copy_eq {P : Program} (w : World) {o : Oper} {a : Act} {K : Act → World → Prop} {Q : Exit → Act → World → Prop} (d s : Operand) (t t' : TypeId)
    (ho : o.op = .call { callee := .builtin .copy, args := #[d, s], argTypes := #[t, t'] }) (v u : Value) (hd : a.eval d = v) (hs : a.eval s = u) {v' : Value} {w' : World}
    (hr : (Builtin.copy_ #[t, t'] o.type #[v, u]).run P w = .ok v' w') (h : K (a.put o.dst v') w') : o.wp P a w K Q := by
  unfold Oper.wp execOp
  simp only [ho, resolve, invoke, builtin, Sem.run_bind, Sem.run_pure, Result.andThen_ok, List.map_toArray, List.map_cons, List.map_nil, hd, hs, hr]
  exact h
theorem wpList_copy_eq {P : Program} (w : World) {ops : Array Oper} {rest : List Oper} {o : Oper} {a : Act} {Q : Exit → Act → World → Prop} (hgd : o.guard = none) (d s : Operand) (t t' : TypeId)
    (ho : o.op = .call { callee := .builtin .copy, args := #[d, s], argTypes := #[t, t'] }) (v u : Value) (hd : a.eval d = v) (hs : a.eval s = u) {v' : Value} {w' : World}
    (hr : (Builtin.copy_ #[t, t'] o.type #[v, u]).run P w = .ok v' w') (h : wpList P ops Q rest (a.put o.dst v') w') : wpList P ops Q (o :: rest) a w :=
  wpList_plain hgd fun _ hK => wp_copy_eq w d s t t' ho v u hd hs hr (hK _ _ h)
theorem step_copy_eq {P : Program} {ops : Array Oper} {o : Oper} {a : Act} {w : World} {K : Act → World → Prop} {Q : Exit → Act → World → Prop} {E : Prop} (hgd : o.guard = none) (d s : Operand) (t t' : TypeId)
    (ho : o.op = .call { callee := .builtin .copy, args := #[d, s], argTypes := #[t, t'] }) (v u : Value) (hd : a.eval d = v) (hs : a.eval s = u) {v' : Value} {w' : World} (hr : (Builtin.copy_ #[t, t'] o.type #[v, u]).run P w = .ok v' w') (h : K (a.put o.dst v') w') :
    if Region.wanted o (yielded ops a.tmps) = true then Oper.wp P o a w K Q else E := by
  have hw : Region.wanted o (yielded ops a.tmps) = true := by simp [Region.wanted, hgd]
  rw [if_pos hw]
  exact wp_copy_eq w d s t t' ho v u hd hs hr h
end Go.Proofs.YtjiaidchcldocaaGreatDoor
namespace Go.Proofs.YtjiaidchcldocaaGreatDoor
open Go.RowKit

theorem elemOk_file : ElemOk Tryz.prog 41 117 2 := elemOk_of Tryz.underlying41 (z := .agg #[.string ⟨#[]⟩, .slice none 0 0]) (b := 40) (by kernel_rfl) rfl (by decide)
theorem size_file (w : World) : (sizeOf (Tryz.prog.elem 41)).run Tryz.prog w = .ok 2 w := by kernel_rfl

end Go.Proofs.YtjiaidchcldocaaGreatDoor
namespace Go.Proofs.YtjiaidchcldocaaGreatDoor
open Go.RowKit

theorem info_file : ∃ i, Tryz.prog.info? 117 = some i ∧ i.size = 2 ∧ i.zero = some (.agg #[.string ⟨#[]⟩, .slice none 0 0]) ∧ i.bytes ≤ 128 := by
  obtain ⟨i, h1, h2, h3, h4⟩ := info_parts (P := Tryz.prog) (e := 117) (z := .agg #[.string ⟨#[]⟩, .slice none 0 0]) (size := 2) (bytes := 40) (by kernel_rfl)
  exact ⟨i, h1, h3, h2, by omega⟩
theorem zero_file : (Builtin.zeroCells (Value.agg #[.string ⟨#[]⟩, .slice none 0 0]).cells 1).toList = [.string ⟨#[]⟩, .slice none 0 0] := by
  simp [Builtin.zeroCells, Value.cells, Array.range, Array.ofFn]
  try rfl
theorem take_two {a b : List Value} {k : Nat} (h : a.length = k) : (a ++ b).take k = a := by subst h; exact List.take_left
theorem drop_two {a b : List Value} {k : Nat} (h : a.length = k) : (a ++ b).drop k = b := by subst h; exact List.drop_left
set_option maxHeartbeats 2000000 in
set_option maxRecDepth 100000 in
theorem delete_any (T : List File) (i : Nat) (v : Value) (w0 w : World) (hn : OwnN 117 w0 w v T) (hi : i < T.length) (hT : T.length ≤ 1000000) :
    Calls Tryz.prog 78 #[v, .int .i64 i, .int .i64 ((i : Int) + 1)] w fun e w' => ∃ r, e = .returned r ∧ OwnN 117 w0 w' r (dropAt T i) ∧ Chg (OwnB v) w w' ∧ (∀ k, r.ownBlock = some k → v.ownBlock = some k) := by
  obtain ⟨g, cap, r, tail, rfl, hg, hsz, hle, hcm, _, hr⟩ := own_rows hn.own (by omega)
  obtain ⟨hrl, hrq⟩ := hr.len
  have hrq : ∀ c ∈ r, c.length = 2 := hrq
  have hsz : (r.flatten ++ tail).length = cap * 2 := hsz
  obtain ⟨inf, hinf, hi2, _, _⟩ := info_file
  have hfl : r.flatten.length = T.length * 2 := by rw [cells_len hrq, hrl]
  have hnew : w0.heap.size ≤ g := hn.new g rfl
  have hgl : g < w.heap.size := (Array.getElem?_eq_some_iff.1 hg).1
  have hRow := Lib.hid hr
  unfold maxLen at hcm
  -- what moves to the left
  have hm1 : ((r.drop (i + 1)).flatten).length = (T.length - (i + 1)) * 2 := by rw [cells_len (fun c hc => hrq c (List.mem_of_mem_drop hc)), List.length_drop, hrl]
  obtain ⟨A, hA, hsrc⟩ : ∃ A : Addr, (if cap = i + 1 then some (⟨g, 0, none⟩ : Addr) else some ⟨g, (i + 1) * 2, none⟩) = some A ∧ Hid (∀ j u, ((r.drop (i + 1)).flatten)[j]? = some u → w.drew.cell? (A.add j) = some u) := by
    by_cases h : cap = i + 1
    · refine ⟨⟨g, 0, none⟩, by rw [if_pos h], fun j u hu => ?_⟩
      have h0 : (r.drop (i + 1)).flatten = [] := List.eq_nil_of_length_eq_zero (by rw [hm1]; omega)
      rw [h0] at hu
      simp at hu
    · refine ⟨⟨g, (i + 1) * 2, none⟩, by rw [if_neg h], fun j u hu => ?_⟩
      rw [Addr.add_lit]
      refine row_cell (w := w.drew) hg ?_
      rw [← cells_drop r (i + 1) hrq, List.getElem?_drop] at hu
      rw [List.getElem?_append_left (List.getElem?_eq_some_iff.1 hu).1]
      exact hu
  have hone : ∀ u ∈ (r.drop (i + 1)).flatten, u.oneCell' = true := fun u hu => by
    obtain ⟨c, hc, hu⟩ := List.mem_flatten.1 hu
    exact hr.one c (List.mem_of_mem_drop hc) u hu
  have hrun1 : ∀ ty, (Builtin.append_ #[41, 41] ty #[.slice (some ⟨g, 0, none⟩) i cap, .slice (some A) (T.length - (i + 1)) (cap - (i + 1))]).run Tryz.prog w.drew = _ := fun ty =>
    run_append_room (P := Tryz.prog) (ty := ty) w.drew 41 117 inf Tryz.underlying41 hinf g i cap (r.flatten ++ tail).toArray hg A (T.length - (i + 1)) (cap - (i + 1)) ((r.drop (i + 1)).flatten) (by rw [hm1, hi2]) hsrc.out hone (by omega) (by rw [hi2, hm1]; simp only [List.size_toArray]; omega)
  have hE1 : (r.flatten ++ tail).take (i * 2) = (r.take i).flatten := by
    rw [← cells_take r i hrq, List.take_append_of_le_length (by rw [hfl]; omega)]
  rw [hi2] at hrun1
  simp only [List.toList_toArray, hE1] at hrun1
  have hi1 : i + (T.length - (i + 1)) = T.length - 1 := by omega
  rw [hi1] at hrun1
  have hm2 : ((r.take i).flatten ++ (r.drop (i + 1)).flatten).length = (T.length - 1) * 2 := by
    rw [List.length_append, hm1, cells_len (fun c hc => hrq c (List.mem_of_mem_take hc)), List.length_take, hrl]; omega
  have hm3 : ((r.flatten ++ tail).drop (i * 2 + ((r.drop (i + 1)).flatten).length)).length = (cap - (T.length - 1)) * 2 := by
    rw [List.length_drop, hsz, hm1]; omega
  generalize (r.flatten ++ tail).drop (i * 2 + ((r.drop (i + 1)).flatten).length) = rest at hrun1 hm3
  have hg1 : (w.drew.setRow g ((r.take i).flatten ++ (r.drop (i + 1)).flatten ++ rest).toArray).heap[g]? = some (.cells ((r.take i).flatten ++ (r.drop (i + 1)).flatten ++ rest).toArray 117 (0, 0)) := setRow_heap w.drew g _ _ _ _ hg
  have hc1 := chg_setRow w.drew g ((r.take i).flatten ++ (r.drop (i + 1)).flatten ++ rest).toArray
  generalize w.drew.setRow g ((r.take i).flatten ++ (r.drop (i + 1)).flatten ++ rest).toArray = W1 at hrun1 hg1 hc1
  have hzv : ∀ w, (zeroValue 117).run Tryz.prog w = .ok (.agg #[.string ⟨#[]⟩, .slice none 0 0]) w := fun w => by kernel_rfl
  have hcl : ∀ ty c, (Builtin.clear_ #[41] ty #[.slice (some ⟨g, (T.length - 1) * 2, none⟩) 1 c]).run Tryz.prog W1 = _ := fun ty c =>
    run_clear_at (P := Tryz.prog) (ty := ty) (c := c) W1 Tryz.underlying41 hzv (zs := [.string ⟨#[]⟩, .slice none 0 0]) zero_file hg1 (by rw [List.length_append, hm2, hm3]; simp; omega) (by simp [Value.oneCell'])
  rw [take_two hm2] at hcl
  generalize hrest : List.drop ((T.length - 1) * 2 + [Value.string ⟨#[]⟩, Value.slice none 0 0].length) ((r.take i).flatten ++ (r.drop (i + 1)).flatten ++ rest) = rest2 at hcl
  have hm4 : rest2.length = (cap - T.length) * 2 := by
    rw [← hrest, List.length_drop, List.length_append, hm2, hm3]; simp; omega
  have hg2 : (W1.setRow g ((r.take i).flatten ++ (r.drop (i + 1)).flatten ++ [Value.string ⟨#[]⟩, Value.slice none 0 0] ++ rest2).toArray).heap[g]? = some (.cells ((r.take i).flatten ++ (r.drop (i + 1)).flatten ++ [Value.string ⟨#[]⟩, Value.slice none 0 0] ++ rest2).toArray 117 (0, 0)) := setRow_heap W1 g _ _ _ _ hg1
  have hc2 := chg_setRow W1 g ((r.take i).flatten ++ (r.drop (i + 1)).flatten ++ [Value.string ⟨#[]⟩, Value.slice none 0 0] ++ rest2).toArray
  generalize W1.setRow g ((r.take i).flatten ++ (r.drop (i + 1)).flatten ++ [Value.string ⟨#[]⟩, Value.slice none 0 0] ++ rest2).toArray = W2 at hcl hg2 hc2
  have hcc : Chg (fun k => k = g) w W2 := ((Chg.refl (fun k => k = g) w).drew.trans hc1).trans hc2
  have hfin : Hid (OwnN 117 w0 W2 (.slice (some ⟨g, 0, none⟩) (T.length - 1) cap) (dropAt T i) ∧ Chg (OwnB (.slice (some ⟨g, 0, none⟩) T.length cap)) w W2 ∧ (∀ k, (Value.slice (some ⟨g, 0, none⟩) (T.length - 1) cap).ownBlock = some k → (Value.slice (some ⟨g, 0, none⟩) T.length cap).ownBlock = some k)) := by
    have hdl : (dropAt T i).length = T.length - 1 := by unfold dropAt; rw [List.length_append, List.length_take, List.length_drop]; omega
    have hrr := ((hRow.out.take i).app (hRow.out.drop (i + 1))).keep (O'' := fun k => Never k ∨ k = g) hcc (fun k _ hk => .inr hk) (fun k _ hk => hk)
    have := own_laid (e := 117) (w := W2) (O := Never) (l := dropAt T i) (g := g) (cap := cap) (r := r.take i ++ r.drop (i + 1)) (tail := [Value.string ⟨#[]⟩, Value.slice none 0 0] ++ rest2) (by rw [List.flatten_append, ← List.append_assoc]; exact hg2)
      (by rw [List.flatten_append, List.length_append, hm2, List.length_append, hm4]; show _ = cap * 2; simp; omega) (by omega) (by unfold maxLen; omega) (fun h => h) hrr
    rw [hdl] at this
    exact ⟨⟨this, fun k hk => by injection hk with hk; subst hk; exact hnew, hn.chg.trans' hcc (fun k hk h => by omega)⟩, hcc.mono (fun k _ h => by rw [h]; rfl), fun k h => h⟩
  clear hg hsz hr hrq hfl hsrc hone hm1 hm2 hm3 hm4 hE1 hg1 hg2 hc1 hc2 hcc hrest hRow hinf hzv hn hrl
  have h1 : ((i : Int) == (i : Int) + 1) = false := beq_eq_false_iff_ne.2 (by omega)
  have h2 : (T.length - 1 : Nat) + 1 = T.length := by omega
  have h3 : T.length - (T.length - 1) = 1 := by omega
  have h4 : ¬ cap = T.length - 1 := by omega
  have h5 : ((i : Int) + 1).toNat = i + 1 := by omega
  have h6 : i ≤ cap := by omega
  have h7 : i + 1 ≤ cap := by omega
  have h8 : (i : Int) + 1 ≤ T.length := by omega
  have h9 : (0 : Int) ≤ (i : Int) + 1 := by omega
  go_enter Tryz.func78, Tryz.ntmps78
  go_wp2_with fail
  refine wp_region_held_drew (S := fun _ => True) (by kernel_rfl) trivial (fun hH => ?_)
  refine' wpAnyH_take (i := 0) ?hi0 (by kernel_rfl) (by kernel_rfl) (by kernel_rfl) ?hQ0 (Or.inl ⟨?hw0, ?hy0⟩) (by assumption) ?_
  case hi0 => (simp only [List.getElem?_toArray, List.getElem?_cons_zero]; rfl)
  case hQ0 => exact fun _ _ _ h => h
  case hw0 => rfl
  case hy0 => (intro w' hSw; (try dsimp only at hSw); go_simp; all_goals with_reducible rfl)
  try simp only [Act.put, List.setIfInBounds_toArray, List.set_cons_zero, List.set_cons_succ]
  refine' wpAnyH_take (i := 1) ?hi1 (by kernel_rfl) (by kernel_rfl) (by kernel_rfl) ?hQ1 (Or.inl ⟨?hw1, ?hy1⟩) (by assumption) ?_
  case hi1 => (simp only [List.getElem?_toArray, List.getElem?_cons_succ, List.getElem?_cons_zero]; rfl)
  case hQ1 => exact fun _ _ _ h => h
  case hw1 => rfl
  case hy1 => (intro w' hSw; (try dsimp only at hSw); go_simp; all_goals with_reducible rfl)
  try simp only [Act.put, List.setIfInBounds_toArray, List.set_cons_zero, List.set_cons_succ]
  refine' wpAnyH_take (i := 2) ?hi2 (by kernel_rfl) (by kernel_rfl) (by kernel_rfl) ?hQ2 (Or.inl ⟨?hw2, ?hy2⟩) (by assumption) ?_
  case hi2 => (simp only [List.getElem?_toArray, List.getElem?_cons_succ, List.getElem?_cons_zero]; rfl)
  case hQ2 => exact fun _ _ _ h => h
  case hw2 => rfl
  case hy2 => (intro w' hSw; (try dsimp only at hSw); go_simp; all_goals with_reducible rfl)
  try simp only [Act.put, List.setIfInBounds_toArray, List.set_cons_zero, List.set_cons_succ]
  refine' wpAnyH_take (i := 3) ?hi3 (by kernel_rfl) (by kernel_rfl) (by kernel_rfl) ?hQ3 (Or.inl ⟨?hw3, ?hy3⟩) (by assumption) ?_
  case hi3 => (simp only [List.getElem?_toArray, List.getElem?_cons_succ, List.getElem?_cons_zero]; rfl)
  case hQ3 => exact fun _ _ _ h => h
  case hw3 => rfl
  case hy3 => (intro w' hSw; (try dsimp only at hSw); go_simp; all_goals with_reducible rfl)
  try simp only [Act.put, List.setIfInBounds_toArray, List.set_cons_zero, List.set_cons_succ]
  refine' wpAnyH_take (i := 4) ?hi4 (by kernel_rfl) (by kernel_rfl) (by kernel_rfl) ?hQ4 (Or.inl ⟨?hw4, ?hy4⟩) (by assumption) ?_
  case hi4 => (simp only [List.getElem?_toArray, List.getElem?_cons_succ, List.getElem?_cons_zero]; rfl)
  case hQ4 => exact fun _ _ _ h => h
  case hw4 => rfl
  case hy4 => (intro w' hSw; (try dsimp only at hSw); go_simp; all_goals with_reducible rfl)
  try simp only [Act.put, List.setIfInBounds_toArray, List.set_cons_zero, List.set_cons_succ]
  refine' wpAnyH_take (i := 5) ?hi5 (by kernel_rfl) (by kernel_rfl) (by kernel_rfl) ?hQ5 (Or.inl ⟨?hw5, ?hy5⟩) (by assumption) ?_
  case hi5 => (simp only [List.getElem?_toArray, List.getElem?_cons_succ, List.getElem?_cons_zero]; rfl)
  case hQ5 => exact fun _ _ _ h => h
  case hw5 => rfl
  case hy5 => (intro w' hSw; (try dsimp only at hSw); go_simp; all_goals with_reducible rfl)
  try simp only [Act.put, List.setIfInBounds_toArray, List.set_cons_zero, List.set_cons_succ]
  refine wpAnyH_ready (rs := [6]) (by kernel_rfl) (by simp) ?_
  refine AllReadyH.cons rfl (fun K hK => ?_) AllReadyH.nil
  refine step_append_eq (by rfl) _ _ 41 41 (by rfl) _ _ (by rfl) (by rfl) (hrun1 _) ?_
  refine hK.out _ _ trivial (fun _ => ?_)
  clear hK K
  try simp only [Act.put, List.setIfInBounds_toArray, List.set_cons_zero, List.set_cons_succ]
  refine' wpAnyH_take (i := 7) ?hi7 (by kernel_rfl) (by kernel_rfl) (by kernel_rfl) ?hQ7 (Or.inl ⟨?hw7, ?hy7⟩) (by assumption) ?_
  case hi7 => (simp only [List.getElem?_toArray, List.getElem?_cons_succ, List.getElem?_cons_zero]; rfl)
  case hQ7 => exact fun _ _ _ h => h
  case hw7 => rfl
  case hy7 => (intro w' hSw; (try dsimp only at hSw); go_simp; all_goals with_reducible rfl)
  try simp only [Act.put, List.setIfInBounds_toArray, List.set_cons_zero, List.set_cons_succ]
  refine wpAnyH_done (by kernel_rfl) ?_ _
  go_wp2_with fail
  go_ret
  exact ⟨_, rfl, hfin.out⟩
end Go.Proofs.YtjiaidchcldocaaGreatDoor
