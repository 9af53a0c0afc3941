/-
  PARTS: WHICH IS WHICH, in plain Lean: what the program chooses is what the document chooses, and none is cheaper. Rows of costs; `left`: which columns are left.; COLUMNS LEFT AS BITS of a small number.; THE LEAST COSTS BY SETS OF COLUMNS, in plain Lean: bounds; how a set's is come by.; OF ITSELF EACH IS ITSELF, in plain Lean (RangeSelf): costs that are 0 from corner to corner.; TWO SERIES, WHICH IS WHICH, in plain Lean: the costs, what is told of a choice.; SERIES, in plain Lean (chapter 13): the pieces of a series, test by test; what the document gathers of them.; A MAP FROM NUMBERS TO NUMBERS that the call has made: what it holds, as a function.; A MAP FROM NUMBERS TO PARTS OF A SERIES, as a function.; A ROW OF PARTS OF A SERIES: what its cells read as.; THE WALKS of match.apart, alone, and of the document's differ.; A SLICE OF SLICES: an element's cell. No program in sight.
-/
import Init
import Derived.Test.YtjiaidchcldocaaGreatDoorPg6
import Derived.Test.YtjiaidchcldocaaGreatDoorPg1
import Derived.Maps.OwnOps
import Derived.Maps.Views
import Derived.Maps.OwnSet
import Derived.Test.YtjiaidchcldocaaGreatDoorPg3
import Derived.Test.YtjiaidchcldocaaGreatDoorPg7
import Derived.Deep.QuietTactic
import Derived.BigQuiet
set_option linter.unusedVariables false
set_option linter.unusedSimpArgs false
namespace Go.Proofs.YtjiaidchcldocaaGreatDoor

/-- rows that may be -/
def SqOk (n : Nat) (rows : List (List Int)) : Prop := ∀ row ∈ rows, row.length = n ∧ ∀ c ∈ row, 0 ≤ c
/-! ### a choice's cost -/
/-! ### a row that is dearer for all columns -/
end Go.Proofs.YtjiaidchcldocaaGreatDoor
namespace Go.Proofs.YtjiaidchcldocaaGreatDoor
end Go.Proofs.YtjiaidchcldocaaGreatDoor
namespace Go.Proofs.YtjiaidchcldocaaGreatDoor

/-- rows that may be, with bounded costs -/
def SqBd (n : Nat) (rows : List (List Int)) : Prop := ∀ row ∈ rows, row.length = n ∧ ∀ c ∈ row, 0 ≤ c ∧ c ≤ 100000
theorem SqBd.ok {n : Nat} {rows : List (List Int)} (h : SqBd n rows) : SqOk n rows := fun r hr => ⟨(h r hr).1, fun c hc => ((h r hr).2 c hc).1⟩
theorem SqBd.drop {n : Nat} {rows : List (List Int)} (h : SqBd n rows) (k : Nat) : SqBd n (rows.drop k) := fun r hr => h r (List.mem_of_mem_drop hr)
theorem SqBd.tail {n : Nat} {row : List Int} {rest : List (List Int)} (h : SqBd n (row :: rest)) : SqBd n rest := fun r hr => h r (List.mem_cons_of_mem _ hr)
theorem SqBd.at {n : Nat} {row : List Int} {rest : List (List Int)} (h : SqBd n (row :: rest)) (k : Nat) : 0 ≤ row.getD k 0 ∧ row.getD k 0 ≤ 100000 := by
  rw [List.getD_eq_getElem?_getD]
  cases e : row[k]? with
  | none => exact ⟨Int.le_refl _, by decide⟩
  | some c => exact (h row (List.mem_cons_self ..)).2 c (List.mem_of_getElem? e)
/-! ### the numbers' bits -/
end Go.Proofs.YtjiaidchcldocaaGreatDoor
namespace Go.Proofs.YtjiaidchcldocaaGreatDoor

end Go.Proofs.YtjiaidchcldocaaGreatDoor
namespace Go.Proofs.YtjiaidchcldocaaGreatDoor

/-! ### a choice: each column once -/
/-! ### what is told -/
/-! ### a nodup list of so many numbers below n has all -/
/-- a choice: each number below n once -/
structure Choice (n : Nat) (m : List Int) : Prop where
  len : m.length = n
  nodup : m.Nodup
  mem : ∀ c ∈ m, ∃ k : Nat, c = k ∧ k < n
/-! ### what is told: each place once -/
/-! ### of itself -/
end Go.Proofs.YtjiaidchcldocaaGreatDoor
namespace Go.Proofs.YtjiaidchcldocaaGreatDoor

def PieceOk (x : Piece) : Prop := titledB x.title = true ∧ x.at' ≤ x.many ∧ x.many ≤ 8
theorem pieceOk_of {m : Mail} (h : pieceF m = 0) : PieceOk (pieceOf m) := by
  unfold pieceF at h
  unfold pieceOf
  by_cases hm : mailFault m = 0
  · rw [if_neg (by rw [hm]; simp)] at h
    cases e : mpartOf m with
    | none => rw [e] at h; cases h
    | some p =>
      obtain ⟨t, a, b⟩ := p
      obtain ⟨h1, h2, h3, _⟩ := part_some e
      exact ⟨h3, h1, h2⟩
  · rw [if_pos hm] at h; exact absurd h hm
/-- the first ones go together -/
def SameTo (ps : List Piece) (k : Nat) : Prop := ∀ y ∈ ps.take k, ∀ x, ps[0]? = some x → y.title = x.title ∧ y.many = x.many
theorem same_zero (ps : List Piece) : SameTo ps 0 := fun y hy => by cases hy
theorem same_step {ps : List Piece} {k : Nat} {y : Piece} (h : SameTo ps k) (hy : ps[k]? = some y) (hs : ∀ x, ps[0]? = some x → y.title = x.title ∧ y.many = x.many) : SameTo ps (k + 1) := fun z hz x hx => by
  rw [List.take_add_one, hy, Option.toList_some] at hz
  rcases List.mem_append.1 hz with hz | hz
  · exact h z hz x hx
  · rw [List.mem_singleton] at hz
    subst hz
    exact hs x hx
theorem same_all {x : Piece} {r : List Piece} (h : SameTo (x :: r) (x :: r).length) : (x :: r).all (fun y => y.title == x.title && y.many == x.many) = true := by
  rw [List.all_eq_true]
  intro y hy
  obtain ⟨a, b⟩ := h y (by rw [List.take_length]; exact hy) x rfl
  rw [a, b]; simp
theorem open_shape {ps : List Piece} {k : Nat} {x y : Piece} (hx : ps[0]? = some x) (hy : ps[k]? = some y) (h : ¬ (y.title = x.title ∧ y.many = x.many)) : openPs ps = ([], [], 2) := by
  match ps, hx, hy with
  | z :: r, hx, hy =>
    simp only [List.getElem?_cons_zero, Option.some.injEq] at hx
    subst hx
    unfold openPs
    simp only
    rw [if_pos]
    cases e : (z :: r).all (fun y => y.title == z.title && y.many == z.many) with
    | false => rfl
    | true =>
      have a := List.all_eq_true.1 e y (List.mem_of_getElem? hy)
      rw [Bool.and_eq_true] at a
      exact absurd ⟨eq_of_beq a.1, eq_of_beq a.2⟩ h
theorem open_clash {ps : List Piece} (hs : SameTo ps ps.length) {k : Nat} {y : Piece} (hy : ps[k]? = some y) (h : y.at' ∈ (ps.take k).map (·.at')) : openPs ps = ([], [], 6) := by
  have hn : ¬ (ps.map (·.at')).Nodup := fun q => by
    have e : ps.map (·.at') = (ps.take k).map (·.at') ++ y.at' :: (ps.drop (k + 1)).map (·.at') := by
      obtain ⟨hk, e⟩ := List.getElem?_eq_some_iff.1 hy
      conv => lhs; rw [← List.take_append_drop k ps, List.drop_eq_getElem_cons hk, e]
      simp
    rw [e, List.nodup_append] at q
    exact q.2.2 _ h _ (List.mem_cons_self ..) rfl
  match ps, hs, hn with
  | [], _, hn => exact absurd List.nodup_nil hn
  | x :: r, hs, hn =>
    unfold openPs
    simp only
    rw [same_all hs, if_neg (by decide), if_pos hn]
theorem nodup_step {ps : List Piece} {k : Nat} {y : Piece} (h : ((ps.take k).map (·.at')).Nodup) (hy : ps[k]? = some y) (hn : y.at' ∉ (ps.take k).map (·.at')) : ((ps.take (k + 1)).map (·.at')).Nodup := by
  rw [List.take_add_one, hy, Option.toList_some, List.map_append, List.nodup_append]
  refine ⟨h, by simp, fun a ha b hb e => ?_⟩
  rw [List.map_cons, List.map_nil, List.mem_singleton] at hb
  subst hb; subst e
  exact hn ha
theorem openp_none : openPs [] = ([], [], 4) := rfl
theorem open_few {ps : List Piece} (hs : SameTo ps ps.length) (hn : (ps.map (·.at')).Nodup) {x : Piece} (hx : ps[0]? = some x) (hl : ps.length ≤ x.many) : openPs ps = ([], [], 4) := by
  match ps, hs, hn, hx, hl with
  | z :: r, hs, hn, hx, hl =>
    simp only [List.getElem?_cons_zero, Option.some.injEq] at hx
    subst hx
    unfold openPs
    simp only
    rw [same_all hs, if_neg (by decide), if_neg (by simpa using hn), if_pos hl]
theorem open_good {ps : List Piece} (hs : SameTo ps ps.length) (hn : (ps.map (·.at')).Nodup) {x : Piece} (hx : ps[0]? = some x) (hl : x.many < ps.length) : openPs ps = (x.title, (List.range x.many).map fun i => getP ps (i + 1), 0) := by
  match ps, hs, hn, hx, hl with
  | z :: r, hs, hn, hx, hl =>
    simp only [List.getElem?_cons_zero, Option.some.injEq] at hx
    subst hx
    unfold openPs
    simp only
    rw [same_all hs, if_neg (by decide), if_neg (by simpa using hn), if_neg (by omega)]
/-- what is found at a number -/
def foundAt (ps : List Piece) (k : Nat) : Option Piece := ps.find? fun x => x.at' == k
theorem found_none {ps : List Piece} {k : Nat} (h : k ∉ ps.map (·.at')) : foundAt ps k = none := by
  unfold foundAt
  rw [List.find?_eq_none]
  intro x hx q
  exact h (List.mem_map.2 ⟨x, hx, by simpa using q⟩)
theorem found_mem {ps : List Piece} {k : Nat} (h : k ∈ ps.map (·.at')) : ∃ x, foundAt ps k = some x ∧ x.at' = k := by
  cases e : foundAt ps k with
  | none =>
    obtain ⟨x, hx, hk⟩ := List.mem_map.1 h
    unfold foundAt at e
    rw [List.find?_eq_none] at e
    exact absurd (by simpa using hk) (e x hx)
  | some x => exact ⟨x, rfl, by have := List.find?_some e; simpa using this⟩
theorem found_step {ps : List Piece} {k : Nat} {y : Piece} (hy : ps[k]? = some y) (hn : y.at' ∉ (ps.take k).map (·.at')) (j : Nat) : foundAt (ps.take (k + 1)) j = if j = y.at' then some y else foundAt (ps.take k) j := by
  have h0 : foundAt (ps.take (k + 1)) j = (foundAt (ps.take k) j).or (if y.at' == j then some y else none) := by
    unfold foundAt
    rw [List.take_add_one, hy, Option.toList_some, List.find?_append, List.find?_cons]
    by_cases q : (y.at' == j) = true
    · rw [q]; rfl
    · rw [Bool.not_eq_true] at q
      rw [q]; rfl
  rw [h0]
  by_cases e : j = y.at'
  · subst e
    rw [if_pos rfl, found_none hn, if_pos (by simp)]; rfl
  · rw [if_neg e, if_neg (by simp; omega)]
    cases foundAt (ps.take k) j <;> rfl
theorem get_found (ps : List Piece) (k : Nat) : getP ps k = ((foundAt ps k).map (·.patch)).getD [] := rfl

/-! ### as the document gathers them -/
end Go.Proofs.YtjiaidchcldocaaGreatDoor
namespace Go.Proofs.YtjiaidchcldocaaGreatDoor
open Go.RowKit Go.Maps

theorem int_law : Keyed Tryz.prog 3 := int_keyed Tryz.underlying3
theorem zero_int (w : World) : (zeroValue 3).run Tryz.prog w = .ok (.int .i64 0) w := by kernel_rfl
/-- block b is a map of at most n entries that holds F j at j (nothing: 0) -/
def IntMap (w : World) (b n : Nat) (F : Int → Int) : Prop :=
  ∃ D : DataW Unit, w.ownsMap Tryz.prog 3 (plainElem Tryz.prog 3) b n D ∧ IsMap D ∧ ∀ j, D.atKey (.int .i64 j) (.lit (.int .i64 0)) = .lit (.int .i64 (F j))
theorem IntMap.lt {w : World} {b n : Nat} {F : Int → Int} (h : IntMap w b n F) : b < w.heap.size := by
  obtain ⟨D, h1, _⟩ := h
  exact h1.lt
theorem IntMap.keep {w w' : World} {b n : Nat} {F : Int → Int} {O : Nat → Prop} (h : IntMap w b n F) (hc : Chg O w w') (hb : ¬ O b) : IntMap w' b n F := by
  have hlt := h.lt
  obtain ⟨D, ⟨es, clock, h1, h2⟩, h3⟩ := h
  exact ⟨D, ⟨es, clock, (hc.block b hlt hb).trans h1, h2⟩, h3⟩
theorem IntMap.mono {w : World} {b n n' : Nat} {F : Int → Int} (h : IntMap w b n F) (hn : n ≤ n') : IntMap w b n' F := by
  obtain ⟨D, h1, h2⟩ := h
  exact ⟨D, h1.mono hn, h2⟩
theorem wf_i64 {a : Int} (h : I64 a) : (Lit.int .i64 a).wf = true := by
  unfold I64 at h
  exact WalkArith.wf_i64 (by omega)
theorem IntMap.look {w : World} {b n : Nat} {F : Int → Int} (h : IntMap w b n F) {j : Int} (hj : I64 j) : (Instr.lookup 163 (.map (some b)) (.int .i64 j) false).run Tryz.prog w = .ok (.int .i64 (F j)) w := by
  obtain ⟨D, h1, h2, h3⟩ := h
  obtain ⟨c, hrun, hat, _⟩ := h1.lookup_int int_law Tryz.underlying163 Tryz.underlying3 (zero_int w) (keyOf_int_mk Tryz.underlying3 (wf_i64 hj))
  rw [h3 j] at hat
  simp only [DataW.lit.injEq, Lit.int.injEq, true_and] at hat
  rw [hat]
  exact hrun
theorem IntMap.put {w : World} {b n : Nat} {F : Int → Int} (h : IntMap w b n F) (hn : n < maxLen) {j c : Int} (hj : I64 j) (hc : I64 c) :
    ∃ w', (Instr.mapUpdate 163 (.map (some b)) (.int .i64 j) (.int .i64 c)).run Tryz.prog w = .ok () w' ∧ IntMap w' b (n + 1) (fun i => if i = j then c else F i) ∧ Chg (fun k => k = b) w w' := by
  obtain ⟨D, h1, h2, h3⟩ := h
  obtain ⟨w', hrun, r1, r2⟩ := h1.update int_law Tryz.underlying163 hn (keyOf_int_mk Tryz.underlying3 (wf_i64 hj)) (plainElem_int Tryz.underlying3 (wf_i64 hc))
  refine ⟨w', hrun, ⟨_, r1, h2.put _ _, fun i => ?_⟩, (Chg.of_grown r2).mono (fun k _ hk => (Option.some.inj hk).symm)⟩
  by_cases e : i = j
  · subst e
    show _ = DataW.lit (.int .i64 (if i = i then c else F i))
    rw [if_pos rfl]
    exact atKey_put_same h2 (by simp [WideAt.IsKeyLit]) _ _
  · show _ = DataW.lit (.int .i64 (if i = j then c else F i))
    rw [if_neg e, atKey_put_other (by simp [e])]
    exact h3 i
end Go.Proofs.YtjiaidchcldocaaGreatDoor
namespace Go.Proofs.YtjiaidchcldocaaGreatDoor
open Go.RowKit
open Go.Maps
open Go.Maps (Keyed IsMap)
open Go.WideElems (Fit)

def heldE (v : Value) : Option (DataW Value × List MemPlace) := some (.held v, [])
def zeroPart : Value := .agg #[.string ⟨#[]⟩, .int .i64 0, .int .i64 0, .slice none 0 0]
theorem zero_part (w : World) : (zeroValue 97).run Tryz.prog w = .ok zeroPart w := by kernel_rfl
/-- block b is a map of n entries that holds at j what F says -/
def PartMap (w : World) (b n : Nat) (F : Int → Option Value) : Prop :=
  ∃ D : DataW Value, w.ownsMap Tryz.prog 3 heldE b n D ∧ IsMap D ∧ Maps.size D = n ∧ (∀ j, D.atKey (.int .i64 j) (.held zeroPart) = .held ((F j).getD zeroPart)) ∧ ∀ j, Maps.has D (.int .i64 j) = (F j).isSome
theorem PartMap.lt {w : World} {b n : Nat} {F : Int → Option Value} (h : PartMap w b n F) : b < w.heap.size := by
  obtain ⟨D, h1, _⟩ := h
  exact h1.lt
theorem PartMap.keep {w w' : World} {b n : Nat} {F : Int → Option Value} {O : Nat → Prop} (h : PartMap w b n F) (hc : Chg O w w') (hb : ¬ O b) : PartMap w' b n F := by
  have hlt := h.lt
  obtain ⟨D, ⟨es, clock, h1, h2⟩, h3⟩ := h
  exact ⟨D, ⟨es, clock, (hc.block b hlt hb).trans h1, h2⟩, h3⟩
theorem partMap_made (w : World) : PartMap (w.alloc (.map #[] 0)) w.heap.size 0 fun _ => none :=
  ⟨_, World.ownsMap_made w _ _ _, Go.Maps.isMap_empty, rfl, fun j => by simp [DataW.atKey], fun j => by simp [Maps.has]⟩
theorem PartMap.look {w : World} {b n : Nat} {F : Int → Option Value} (h : PartMap w b n F) {j : Int} (hj : I64 j) : (Instr.lookup 102 (.map (some b)) (.int .i64 j) false).run Tryz.prog w = .ok ((F j).getD zeroPart) w := by
  obtain ⟨D, h1, h2, h3, h4, h5⟩ := h
  obtain ⟨v, ps, hrun, hv⟩ := h1.lookup int_law Tryz.underlying102 (zero_part w) (zd := .held zeroPart) (zp := []) rfl (keyOf_int_mk Tryz.underlying3 (wf_i64 hj))
  rw [h4 j] at hv
  unfold heldE at hv
  simp only [Option.some.injEq, Prod.mk.injEq, DataW.held.injEq] at hv
  rw [← hv.1]
  exact hrun
theorem PartMap.lookOk {w : World} {b n : Nat} {F : Int → Option Value} (h : PartMap w b n F) {j : Int} (hj : I64 j) : (Instr.lookup 102 (.map (some b)) (.int .i64 j) true).run Tryz.prog w = .ok (.tuple #[(F j).getD zeroPart, .bool (F j).isSome]) w := by
  obtain ⟨D, h1, h2, h3, h4, h5⟩ := h
  obtain ⟨v, ps, hrun, hv⟩ := h1.look_ok int_law Tryz.underlying102 (zero_part w) (zd := .held zeroPart) (zp := []) rfl (keyOf_int_mk Tryz.underlying3 (wf_i64 hj))
  rw [h4 j] at hv
  rw [h5 j] at hrun
  unfold heldE at hv
  simp only [Option.some.injEq, Prod.mk.injEq, DataW.held.injEq] at hv
  rw [← hv.1]
  exact hrun
theorem size_put_new {D : DataW Value} (hD : IsMap D) {k : Lit} (d : DataW Value) (hn : Maps.has D k = false) : Maps.size (D.put k d) = Maps.size D + 1 := by
  obtain ⟨es, rfl⟩ := hD
  have hf : es.filter (fun p => !p.1.sameKey k) = es := by
    rw [List.filter_eq_self]
    intro p hp
    have : es.any (fun p => p.1.sameKey k) = false := hn
    rw [List.any_eq_false] at this
    simpa using this p hp
  have hi : ∀ (x : Lit × DataW Value) (l : List (Lit × DataW Value)), (DataW.insert x l).length = l.length + 1 := fun x l => by
    induction l with
    | nil => rfl
    | cons y r ih =>
      unfold DataW.insert
      split
      · rfl
      · rw [List.length_cons, ih, List.length_cons]
  show (DataW.insert (k, d) (es.filter fun p => !p.1.sameKey k)).length = es.length + 1
  rw [hf, hi]
theorem PartMap.put {w : World} {b n : Nat} {F : Int → Option Value} (h : PartMap w b n F) (hn : n < maxLen) {j : Int} (hj : I64 j) (v : Value) (hF : F j = none) :
    ∃ w', (Instr.mapUpdate 102 (.map (some b)) (.int .i64 j) v).run Tryz.prog w = .ok () w' ∧ PartMap w' b (n + 1) (fun i => if i = j then some v else F i) ∧ Chg (fun k => k = b) w w' := by
  obtain ⟨D, h1, h2, h3, h4, h5⟩ := h
  obtain ⟨w', hrun, r1, r2⟩ := h1.update int_law Tryz.underlying102 hn (keyOf_int_mk Tryz.underlying3 (wf_i64 hj)) (val := v) (d := .held v) (ps := []) rfl
  refine ⟨w', hrun, ⟨_, r1, h2.put _ _, ?_, fun i => ?_, fun i => ?_⟩, (Chg.of_grown r2).mono (fun k _ hk => (Option.some.inj hk).symm)⟩
  · rw [size_put_new h2 _ (by rw [h5 j, hF]; rfl), h3]
  · by_cases e : i = j
    · subst e
      show _ = DataW.held ((if i = i then some v else F i).getD zeroPart)
      rw [if_pos rfl]
      exact Go.Maps.atKey_put_same h2 (by simp [WideAt.IsKeyLit]) _ _
    · show _ = DataW.held ((if i = j then some v else F i).getD zeroPart)
      rw [if_neg e, Go.Maps.atKey_put_other (by simp [e])]
      exact h4 i
  · by_cases e : i = j
    · subst e
      show _ = (if i = i then some v else F i).isSome
      rw [if_pos rfl, Go.Maps.has_put_same h2 (by simp [WideAt.IsKeyLit])]; rfl
    · show _ = (if i = j then some v else F i).isSome
      rw [if_neg e, Go.Maps.has_put_other (by simp [e])]
      exact h5 i
theorem PartMap.len {w : World} {b n : Nat} {F : Int → Option Value} (h : PartMap w b n F) (ty : TypeId) : (Builtin.len_ #[102] ty #[.map (some b)]).run Tryz.prog w = .ok (.int .i64 n) w := by
  obtain ⟨D, h1, h2, h3, h4, h5⟩ := h
  have := h1.len Tryz.underlying102 ty
  rw [h3] at this
  exact this
end Go.Proofs.YtjiaidchcldocaaGreatDoor
namespace Go.Proofs.YtjiaidchcldocaaGreatDoor
open Go.RowKit

instance : Dat Piece where
  n := 4
  rd w O cs x := ∃ v, cs = [.string (toB x.title), .int .i64 x.at', .int .i64 x.many, v] ∧ PieceOk x ∧ Dat.rd w O [v] x.patch
  bulk x := Dat.bulk x.patch + 30
  pos := by decide
  len := by rintro _ _ _ _ ⟨v, rfl, _⟩; rfl
  one := by
    rintro _ _ _ _ ⟨v, rfl, _, hv⟩ u hu
    simp only [List.mem_cons, List.not_mem_nil, or_false] at hu
    rcases hu with rfl | rfl | rfl | rfl
    · rfl
    · rfl
    · rfl
    · exact Dat.one hv _ (by simp)
  keep := by
    rintro w w' O O' O'' cs l ⟨v, rfl, hp, h⟩ hc k1 k2
    exact ⟨v, rfl, hp, Dat.keep h hc k1 k2⟩
theorem elems_part {w : World} {O : Nat → Prop} {a : Option Addr} {l : List Piece} (h : Elems w O a l) {i : Nat} {x : Piece} (hx : l[i]? = some x) :
    ∃ b off v, a = some ⟨b, off, none⟩ ∧ ¬ O b ∧ b < w.heap.size ∧ w.cell? ⟨b, off + i * 4, none⟩ = some (.string (toB x.title)) ∧ w.cell? ⟨b, off + i * 4 + 1, none⟩ = some (.int .i64 x.at') ∧ w.cell? ⟨b, off + i * 4 + 2, none⟩ = some (.int .i64 x.many) ∧ w.cell? ⟨b, off + i * 4 + 3, none⟩ = some v ∧ PieceOk x ∧ Rdv w O v x.patch := by
  obtain ⟨b, off, es, ha, hb, hcs, v, rfl, hp, hv⟩ := h i x hx
  refine ⟨b, off, v, ha, hb, hcs.lt (by simp), ?_, ?_, ?_, ?_, hp, hv⟩
  · simpa [Dat.n] using hcs 0 _ rfl
  · simpa [Dat.n] using hcs 1 _ rfl
  · simpa [Dat.n] using hcs 2 _ rfl
  · simpa [Dat.n] using hcs 3 _ rfl
theorem elemOk_part : ElemOk Tryz.prog 99 97 4 := elemOk_of Tryz.underlying99 (z := .agg #[.string ⟨#[]⟩, .int .i64 0, .int .i64 0, .slice none 0 0]) (b := 56) (by kernel_rfl) rfl (by decide)
/-- what a map holds of the first parts -/
def Holds (w : World) (ps : List Piece) (F : Int → Option Value) : Prop := ∀ j : Nat, match foundAt ps j with
  | none => F j = none
  | some x => ∃ v, F j = some (partV (toB x.title) x.at' x.many v) ∧ Rdv w Never v x.patch
theorem holds_nil (w : World) : Holds w [] (fun _ => none) := fun _ => rfl
theorem Holds.never {w w' : World} {ps : List Piece} {F : Int → Option Value} (h : Holds w ps F) (hc : Chg Never w w') : Holds w' ps F := fun j => by
  have := h j
  cases e : foundAt ps j with
  | none => rw [e] at this; exact this
  | some x =>
    rw [e] at this
    obtain ⟨v, h1, h2⟩ := this
    exact ⟨v, h1, h2.never hc⟩
theorem Holds.gone {w : World} {ps : List Piece} {F : Int → Option Value} (h : Holds w ps F) {j : Nat} (hn : j ∉ ps.map (·.at')) : F j = none := by
  have := h j
  rw [found_none hn] at this
  exact this
theorem Holds.here {w : World} {ps : List Piece} {F : Int → Option Value} (h : Holds w ps F) {j : Nat} (hn : j ∈ ps.map (·.at')) : ∃ x v, foundAt ps j = some x ∧ x.at' = j ∧ F j = some (partV (toB x.title) x.at' x.many v) ∧ Rdv w Never v x.patch := by
  obtain ⟨x, e, hx⟩ := found_mem hn
  have := h j
  rw [e] at this
  obtain ⟨v, h1, h2⟩ := this
  exact ⟨x, v, e, hx, h1, h2⟩
/-- what is there by number: nothing is an empty patch -/
theorem Holds.patch {w : World} {ps : List Piece} {F : Int → Option Value} (h : Holds w ps F) (j : Nat) : ∃ (t : ByteArray) (a b : Int) (v : Value), (F j).getD zeroPart = partV t a b v ∧ Rdv w Never v (getP ps j) := by
  have := h j
  rw [get_found]
  cases e : foundAt ps j with
  | none =>
    rw [e] at this
    exact ⟨_, _, _, _, by rw [this]; rfl, rdv_nil _ _⟩
  | some x =>
    rw [e] at this
    obtain ⟨v, h1, h2⟩ := this
    exact ⟨_, _, _, _, by rw [h1]; rfl, h2⟩
theorem Holds.step {w : World} {ps : List Piece} {k : Nat} {y : Piece} {F : Int → Option Value} {v : Value} (h : Holds w (ps.take k) F) (hy : ps[k]? = some y) (hn : y.at' ∉ (ps.take k).map (·.at')) (hv : Rdv w Never v y.patch) :
    Holds w (ps.take (k + 1)) (fun i => if i = (y.at' : Int) then some (partV (toB y.title) y.at' y.many v) else F i) := fun j => by
  rw [found_step hy hn]
  by_cases e : j = y.at'
  · subst e
    rw [if_pos rfl]
    exact ⟨v, if_pos rfl, hv⟩
  · rw [if_neg e]
    have := h j
    cases q : foundAt (ps.take k) j with
    | none =>
      rw [q] at this
      show (if (j : Int) = (y.at' : Int) then _ else F j) = _
      rw [if_neg (by omega)]
      exact this
    | some x =>
      rw [q] at this
      obtain ⟨u, h1, h2⟩ := this
      exact ⟨u, by show (if (j : Int) = (y.at' : Int) then _ else F j) = _; rw [if_neg (by omega)]; exact h1, h2⟩
end Go.Proofs.YtjiaidchcldocaaGreatDoor
namespace Go.Proofs.YtjiaidchcldocaaGreatDoor
open Go.RowKit

end Go.Proofs.YtjiaidchcldocaaGreatDoor
namespace Go.Proofs.YtjiaidchcldocaaGreatDoor
open Go.RowKit
theorem elems_row {α : Type} [Dat α] {w : World} {O : Nat → Prop} {a : Option Addr} {l : List (List α)} (h : Elems w O a l) {i : Nat} {x : List α} (hx : l[i]? = some x) :
    ∃ b off v, a = some ⟨b, off, none⟩ ∧ ¬ O b ∧ b < w.heap.size ∧ w.cell? ⟨b, off + i, none⟩ = some v ∧ Rdv w O v x := by
  obtain ⟨b, off, es, ha, hb, hcs, hr⟩ := h i x hx
  obtain ⟨v, rfl⟩ : ∃ v, es = [v] := by
    have hl : es.length = 1 := Dat.len hr
    match es, hl with
    | [v], _ => exact ⟨v, rfl⟩
  refine ⟨b, off, v, ha, hb, hcs.lt (by simp), ?_, hr⟩
  have := hcs 0 v rfl
  simpa [Dat.n] using this
end Go.Proofs.YtjiaidchcldocaaGreatDoor
