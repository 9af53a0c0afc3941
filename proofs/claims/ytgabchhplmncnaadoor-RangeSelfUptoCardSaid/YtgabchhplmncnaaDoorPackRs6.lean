/-
  PARTS: THE WALK of hunk.near.; THE WALK of hunk.cut.; THE WALKS of unified.Reader's Open and mark.; THE WALK of unified.Reader's Line.; THE WALK of the document's Parts (a text of its own: no function of layers 1 to 9 in it).; THE WALKS of hunk.Cut, Turned, Turn.; append OF A WHOLE SLICE to one of the call's own; a slice's slice. No program in sight.; THE WALKS OF LAYER 4: hunk.Make, sides, slices.Equal, stands.; THE WALKS OF LAYER 4: slices.Grow of nil, slices.Concat.; THE WALK of apply.Strict.; THE WALKS of the document's NewOf, OldOf.; THE WALKS of the document's LineFault, LinesFault, ScriptFault.; A SLICE OF A SLICE, as a run, at whatever element type.; TEXTS IN PARTS: small laws on rows of strings (light: no function of layers 1 to 9).; THE WALKS of the document's Parts, SplitOf, JoinOf, and of line.Split, line.Join.; THE WALKS of line.letter, line.Path, and of the document's PathFault.; THE WALKS of tree.Check and of the document's TreeFault, Place.; CHANGES AS CELLS, and handstitchsame.Patches.
-/
import Derived.Test.YtgabchhplmncnaaDoorPackRs5
import Derived.Test.YtgabchhplmncnaaDoorPackRs2
import Derived.Test.YtgabchhplmncnaaDoorPackRs3
import Derived.Deep.RegionLaw
import Derived.Deep.DrawnRows
import Derived.Deep.RegionHeld3
import Derived.Deep.Cut
import Derived.Test.YtgabchhplmncnaaDoorPackRs1
import Derived.Test.YtgabchhplmncnaaDoorPackRs4
import Derived.WalkLawsBesides
import Derived.Lib.Walk
import Derived.Lib.SliceRun
import Derived.Lib.AppendZerosOnto
import Derived.Lib.SplitLaws
import Derived.StillTailTactics
namespace Go.Proofs.YtgabchhplmncnaaDoor
open Go.RowKit

/-- which marks are near one of the first i -/
def nearTo (s : List Mark) (n : Int) (i k : Nat) : Bool :=
  (List.range i).any fun j => (s[j]?.any isChange) && decide ((k : Int) ≤ j + n) && decide ((j : Int) ≤ k + n) && (k == j || (s[k]?.any fun m => m.sign == 32))
def BoolRow (B : Nat) (wr : World) (len : Nat) (f : Nat → Bool) : Prop :=
  ∃ c : Array Value, wr.heap[B]? = some (.cells c 4 (0, 0)) ∧ c.size = len ∧ ∀ k, k < len → c[k]? = some (.bool (f k))

theorem BoolRow.cell {B : Nat} {wr : World} {len : Nat} {f : Nat → Bool} (h : BoolRow B wr len f) {k : Nat} (hk : k < len) : wr.cell? ⟨B, k, none⟩ = some (.bool (f k)) := by
  obtain ⟨c, h1, h2, h3⟩ := h
  simp only [World.cell?, h1]
  exact h3 k hk
theorem BoolRow.free {B : Nat} {wr : World} {len : Nat} {f : Nat → Bool} (h : BoolRow B wr len f) (k : Nat) : wr.frozen? ⟨B, k, none⟩ = false := by
  obtain ⟨c, h1, h2, h3⟩ := h
  simp [World.frozen?, h1]
theorem BoolRow.keep {B : Nat} {wr w' : World} {len : Nat} {f : Nat → Bool} {O : Nat → Prop} (h : BoolRow B wr len f) (hc : Chg O wr w') (hB : ¬ O B) : BoolRow B w' len f := by
  obtain ⟨c, h1, h2⟩ := h
  refine ⟨c, ?_, h2⟩
  rw [hc.block B (Array.getElem?_eq_some_iff.1 h1).1 hB]
  exact h1
theorem BoolRow.set {B : Nat} {wr : World} {len : Nat} {f : Nat → Bool} (h : BoolRow B wr len f) {k : Nat} (hk : k < len) (b : Bool) {g : Nat → Bool} (hg : ∀ j, j < len → g j = if j = k then b else f j) :
    BoolRow B (wr.setCell ⟨B, k, none⟩ (.bool b)) len g := by
  obtain ⟨c, h1, h2, h3⟩ := h
  refine ⟨c.setIfInBounds k (.bool b), ?_, by simpa using h2, ?_⟩
  · simp [World.setCell, Array.getElem?_modify, h1]
  · intro j hj
    rw [Array.getElem?_setIfInBounds, hg j hj]
    by_cases e : j = k
    · subst e; simp [h2, hj]
    · rw [if_neg (fun h => e h.symm), if_neg e]; exact h3 j hj

def keptAt (s : List Mark) (k : Nat) : Bool := s[k]?.any fun m => m.sign == 32
def inWin (n : Int) (i k : Nat) : Bool := decide ((k : Int) ≤ i + n) && decide ((i : Int) ≤ k + n)
theorem nearTo_succ {s : List Mark} {n : Int} {i k : Nat} {x : Mark} (hx : s[i]? = some x) :
    nearTo s n (i + 1) k = (nearTo s n i k || (isChange x && inWin n i k && (k == i || keptAt s k))) := by
  unfold nearTo inWin keptAt
  rw [List.range_succ, List.any_append]
  simp [hx, Bool.and_assoc]
theorem nearTo_kept {s : List Mark} {n : Int} {i : Nat} {x : Mark} (hx : s[i]? = some x) (h : x.sign = 32) : nearTo s n i = nearTo s n (i + 1) := by
  funext k
  rw [nearTo_succ hx]
  simp [isChange, h]
/-- the row in the midst of mark i: done from lo to c -/
def midRow (s : List Mark) (n : Int) (i : Nat) (c : Int) (k : Nat) : Bool := if (k : Int) < c then nearTo s n (i + 1) k else nearTo s n i k
theorem midRow_start {s : List Mark} {n : Int} {i : Nat} {x : Mark} (hx : s[i]? = some x) (_hn : 0 ≤ n) (k : Nat) : midRow s n i (max 0 ((i : Int) - n)) k = nearTo s n i k := by
  unfold midRow
  split
  · rw [nearTo_succ hx]
    have : inWin n i k = false := by
      unfold inWin
      rename_i h
      have : decide ((i : Int) ≤ k + n) = false := by simp; omega
      simp [this]
    simp [this]
  · rfl
theorem midRow_end {s : List Mark} {n : Int} {i : Nat} {x : Mark} {c : Int} (hx : s[i]? = some x) (hc : min ((s.length : Int) - 1) (i + n) < c) {k : Nat} (hk : k < s.length) : midRow s n i c k = nearTo s n (i + 1) k := by
  unfold midRow
  split
  · rfl
  · rw [nearTo_succ hx]
    have : inWin n i k = false := by
      unfold inWin
      rename_i h
      have : decide ((k : Int) ≤ i + n) = false := by simp; omega
      simp [this]
    simp [this]
theorem midRow_step {s : List Mark} {n : Int} {i c : Nat} (j : Nat) : midRow s n i ((c : Int) + 1) j = if j = c then nearTo s n (i + 1) c else midRow s n i c j := by
  unfold midRow
  by_cases h : j = c
  · subst h; simp; omega
  · rw [if_neg h]
    by_cases h1 : (j : Int) < c
    · rw [if_pos h1, if_pos (by omega)]
    · rw [if_neg h1, if_neg (by omega)]
theorem nearTo_inAt {s : List Mark} {n : Int} (hn : 0 ≤ n) {k : Nat} (hk : k < s.length) : nearTo s n s.length k = inAt s n k := by
  rw [Bool.eq_iff_iff]
  unfold nearTo inAt
  rw [List.any_eq_true, List.any_eq_true]
  have hsk : s[k]? = some s[k] := by simp [hk]
  constructor
  · rintro ⟨j, hj, hp⟩
    rw [Bool.and_eq_true] at hp
    exact ⟨j, hj, hp.1⟩
  · rintro ⟨j, hj, hp⟩
    by_cases hc : (s[k]).sign = 32
    · refine ⟨j, hj, ?_⟩
      rw [Bool.and_eq_true]
      exact ⟨hp, by simp [hsk, hc]⟩
    · refine ⟨k, List.mem_range.2 hk, ?_⟩
      simp [hsk, isChange, hc]
      omega

theorem boolRow_made {w1 : World} {B len : Nat} (h : w1.ownsRow 0 4 1 (.slice (some ⟨B, 0, none⟩) len len) len (madeCells (Value.bool false).cells (len * 1)).toList) : BoolRow B w1 len fun _ => false := by
  obtain ⟨_, hx⟩ := h
  rcases hx with ⟨h, _⟩ | ⟨g, cap, cur, hv, _, hh, hn, hm, hcs, htake⟩
  · cases h
  · injection hv with hv1 _ hv3
    injection hv1 with hv1
    injection hv1 with hv1
    subst hv1 hv3
    refine ⟨cur, hh, by simpa using hcs, ?_⟩
    intro k hk
    have e : cur.toList[k]? = (cur.toList.take (len * 1))[k]? := by rw [List.getElem?_take, if_pos (by omega)]
    rw [← Array.getElem?_toList, e, htake]
    simp [madeCells, Value.cells, hk, Nat.mod_one]

end Go.Proofs.YtgabchhplmncnaaDoor
namespace Go.Proofs.YtgabchhplmncnaaDoor
open Go.RowKit

theorem elemOk_hunk : ElemOk Tryd.prog 23 50 3 := elemOk_of Tryd.underlying23 (z := .agg #[.int .i64 0, .int .i64 0, .slice none 0 0]) (b := 40) (by kernel_rfl) rfl (by decide)

/-- 'append(v, y)' at a step of a region that draws: y's cells have just been laid in a block of their own -/
theorem step_push {P : Program} {ops : Array Oper} {o : Oper} {a : Act} {K : Act → World → Prop} {Q : Exit → Act → World → Prop} {E : Prop} (hgd : o.guard = none) (s x : Operand) (t : TypeId)
    (ho : o.op = .call { callee := .builtin .append, args := #[s, x], argTypes := #[t, t] }) {α : Type} [Dat α] {e : TypeId} (hP : ElemOk P t e (Dat.n α)) {w0 : World} {O : Nat → Prop} {v : Value} {l : List α} {y : α} {es : List Value} {E' : TypeId} {B : Nat}
    (hs : a.eval s = v) (hx : a.eval x = .slice (some ⟨B, 0, none⟩) 1 1) (hB : B = w0.heap.size)
    (hown : Own e w0 O v l) (hy : Dat.rd w0 (fun k => O k ∨ v.ownBlock = some k) es y) (hO : ∀ k, O k → k < w0.heap.size) (hlen : l.length ≤ 1000000000)
    (h : ∀ v' w', Own e w' O v' (l ++ [y]) → Chg (OwnB v) w0 w' → (∃ k, v'.ownBlock = some k ∧ (v.ownBlock = some k ∨ w0.heap.size ≤ k)) → K (a.put o.dst v') w') :
    if Region.wanted o (yielded ops a.tmps) = true then Oper.wp P o a (w0.alloc (.cells es.toArray E')) K Q else E := by
  have hw : Region.wanted o (yielded ops a.tmps) = true := by simp [Region.wanted, hgd]
  rw [if_pos hw]
  subst hB
  obtain ⟨v', w', hrun, h1, h2, h3⟩ := run_push (ty := o.type) hP E' hown hy hO hlen
  unfold Oper.wp execOp
  simp only [ho, resolve, invoke, builtin, Sem.run_bind, Sem.run_pure, Result.andThen_ok, List.map_toArray, List.map_cons, List.map_nil, hs, hx, hrun]
  exact h v' w' h1 h2 h3

theorem cutTo_len {s : List Mark} {n : Int} (hn : 0 ≤ n) : ∀ k, k ≤ s.length → (cutTo s n k).length ≤ k := by
  intro k
  induction k with
  | zero => intro _; exact Nat.le_refl _
  | succ k ih =>
    intro hk
    have := ih (by omega)
    by_cases h1 : inAt s n k = true
    · by_cases h2 : wasIn s n k = true
      · rw [cutLen_more hn (by omega) h1 h2]; omega
      · rw [cutLen_new (by omega) h1 (by simpa using h2)]; omega
    · rw [cutLen_out (by omega) (by simpa using h1)]; omega

theorem own_slice {v : Value} {p : Nat → Prop} (h : ∃ k, v.ownBlock = some k ∧ p k) : ∃ a n c, v = .slice (some a) n c := by
  obtain ⟨k, hk, _⟩ := h
  unfold Value.ownBlock at hk
  split at hk
  · exact ⟨_, _, _, rfl⟩
  · cases hk

theorem ifn_true {a k : Int} (h : (a != k) = true) : (if a = k then (0 : Nat) else 1) = 1 := if_neg (by simpa using h)
theorem ifn_false {a k : Int} (h : (a != k) = false) : (if a = k then (0 : Nat) else 1) = 0 := if_pos (by simpa using h)

/-- the hunks so far -/
def CutOwn (w : World) (O : Nat → Prop) (v : Value) (l : List Hunk) (was : Bool) : Prop :=
  if was = true then ∃ init h mv xs, l = init ++ [h] ∧ OwnLast 50 61 w O v init h mv xs else Own 50 w O v l
theorem CutOwn.own {w : World} {O : Nat → Prop} {v : Value} {l : List Hunk} {was : Bool} (h : CutOwn w O v l was) : Own 50 w O v l := by
  unfold CutOwn at h
  split at h
  · obtain ⟨init, q, mv, xs, rfl, hl⟩ := h
    exact hl.own
  · exact h


theorem cut_marks {s : List Mark} {n : Int} (hn : 0 ≤ n) {k : Nat} (hk : k ≤ s.length) (hw : wasIn s n k = true) {init : List Hunk} {q : Hunk} (e : cutTo s n k = init ++ [q]) : q.marks.length ≤ k := by
  obtain ⟨p, m, l, ho⟩ := (cut_inv hn k hk).2 hw
  have h1 := ho.eq
  have h2 := ho.cut
  rw [e] at h2
  have h3 := (List.append_inj' h2 rfl).2
  simp only [List.cons.injEq, and_true] at h3
  subst h3
  have : (s.take k).length = (p ++ m).length := by rw [h1]
  rw [List.length_take, List.length_append] at this
  simp only
  omega

end Go.Proofs.YtgabchhplmncnaaDoor
namespace Go.Proofs.YtgabchhplmncnaaDoor
open Go.RowKit
end Go.Proofs.YtgabchhplmncnaaDoor
namespace Go.Proofs.YtgabchhplmncnaaDoor
open Go.RowKit

theorem lib_pre (s p : List UInt8) : (dropPre p s = none ∧ Lib.hasPrefix s p = false ∧ Lib.trimPrefix s p = s) ∨ ∃ r, dropPre p s = some r ∧ Lib.hasPrefix s p = true ∧ Lib.trimPrefix s p = r := by
  unfold dropPre Lib.trimPrefix Lib.hasPrefix
  by_cases h : p.isPrefixOf s = true
  · exact .inr ⟨_, by rw [if_pos h], h, by rw [if_pos h]⟩
  · exact .inl ⟨by rw [if_neg h], Bool.eq_false_iff.2 h, by rw [if_neg h]⟩
theorem lib_suf (s p : List UInt8) : (dropSuf p s = none ∧ Lib.hasSuffix s p = false ∧ Lib.trimSuffix s p = s) ∨ ∃ r, dropSuf p s = some r ∧ Lib.hasSuffix s p = true ∧ Lib.trimSuffix s p = r := by
  unfold dropSuf Lib.trimSuffix Lib.hasSuffix
  by_cases h : p.isSuffixOf s = true
  · exact .inr ⟨_, by rw [if_pos h], h, by rw [if_pos h]⟩
  · exact .inl ⟨by rw [if_neg h], Bool.eq_false_iff.2 h, by rw [if_neg h]⟩
end Go.Proofs.YtgabchhplmncnaaDoor
namespace Go.Proofs.YtgabchhplmncnaaDoor
open Go.RowKit

theorem byte_at {s : ByteArray} {k : Nat} (h : k < s.size) : s.data.toList[k]? = some (s[k]'h) := by
  rw [Array.getElem?_toList, Array.getElem?_eq_getElem h]; rfl
theorem byte_eq {c d : UInt8} {n : Int} (h : ((c.toNat : Int) == n) = true) (hd : (d.toNat : Int) = n) : c = d := by
  have := eq_of_beq h
  exact UInt8.toNat_inj.1 (by omega)
theorem byte_ne {c d : UInt8} {n : Int} (h : ((c.toNat : Int) == n) = false) (hd : (d.toNat : Int) = n) : c ≠ d := by
  rintro rfl
  rw [hd] at h
  simp at h
/-- how far a text has been parted -/
def PartsInv (d : UInt8) (s : ByteArray) (q k : Nat) (L : List ByteArray) : Prop :=
  parts d s.data.toList = L.map (·.data.toList) ++ parts d (s.data.toList.drop q) ∧ ∀ j, q ≤ j → j < k → s.data.toList[j]? ≠ some d
theorem pinv_start (d : UInt8) (s : ByteArray) : PartsInv d s 0 0 [] := ⟨by simp, fun j _ h => absurd h (Nat.not_lt_zero j)⟩
theorem PartsInv.step {d : UInt8} {s : ByteArray} {q k : Nat} {L : List ByteArray} {c : UInt8} (h : PartsInv d s q k L) (hk : s.data.toList[k]? = some c) (hc : c ≠ d) : PartsInv d s q (k + 1) L :=
  ⟨h.1, fun j h1 h2 e => by
    by_cases hj : j = k
    · subst hj; rw [hk] at e; injection e with e; exact hc e
    · exact h.2 j h1 (by omega) e⟩
theorem no_sep {d : UInt8} {s : List UInt8} {q k : Nat} (h : ∀ j, q ≤ j → j < k → s[j]? ≠ some d) : ∀ x ∈ (s.drop q).take (k - q), x ≠ d := by
  rintro x hx rfl
  obtain ⟨i, hi⟩ := List.getElem?_of_mem hx
  rw [List.getElem?_take] at hi
  split at hi
  · rw [List.getElem?_drop] at hi
    exact h (q + i) (by omega) (by omega) hi
  · cases hi
theorem PartsInv.cut {d : UInt8} {s : ByteArray} {q k : Nat} {L : List ByteArray} (h : PartsInv d s q k L) (hq : q ≤ k) (hk : s.data.toList[k]? = some d) : PartsInv d s (k + 1) (k + 1) (L ++ [s.extract q k]) := by
  refine ⟨?_, fun j h1 h2 => by omega⟩
  have e : s.data.toList.drop q = (s.data.toList.drop q).take (k - q) ++ d :: s.data.toList.drop (k + 1) := by
    conv => lhs; rw [← List.take_append_drop (k - q) (s.data.toList.drop q), List.drop_drop, show q + (k - q) = k by omega, drop_eq hk]
  rw [h.1, e, parts_cut _ (no_sep h.2), List.map_append, List.append_assoc]
  simp only [List.map_cons, List.map_nil, List.singleton_append]
  rw [Lib.extract_data]
theorem PartsInv.fin {d : UInt8} {s : ByteArray} {q : Nat} {L : List ByteArray} (h : PartsInv d s q s.size L) : (parts d s.data.toList).map toB = L ++ [s.extract q s.size] := by
  have hl : s.data.toList.length = s.size := (Lib.size_eq s).symm
  have e : (s.data.toList.drop q).take (s.size - q) = s.data.toList.drop q := List.take_of_length_le (by rw [List.length_drop, hl]; exact Nat.le_refl _)
  have hn := no_sep h.2
  rw [e] at hn
  have e2 : toB (s.data.toList.drop q) = s.extract q s.size := by rw [← e, ← Lib.extract_data, toB_of]
  rw [h.1, parts_none hn, List.map_append, List.map_map, map_toB, List.map_cons, List.map_nil, e2]

theorem elemOk_parts : ElemOk Tryd.prog 51 9 1 := elemOk_of Tryd.underlying51 (z := .string ⟨#[]⟩) (b := 16) (by kernel_rfl) rfl (by decide)
end Go.Proofs.YtgabchhplmncnaaDoor
namespace Go.Proofs.YtgabchhplmncnaaDoor
open Go.RowKit

def cutR (s : List Mark) (n : Int) : List Hunk := if cutFault s n = 0 then cutOf s n else []

/-! ### turned -/

theorem map_take {l : List Mark} {k : Nat} {x : Mark} (hx : l[k]? = some x) : (l.take (k + 1)).map turnMark = (l.take k).map turnMark ++ [turnMark x] := by
  rw [List.take_add_one, hx]; simp


def turnR (l : List Hunk) : List Hunk := if (hunksFault l).2 = 0 then turnHunks l else []
theorem turnHunks_take {l : List Hunk} {k : Nat} {x : Hunk} (hx : l[k]? = some x) : turnHunks (l.take (k + 1)) = turnHunks (l.take k) ++ [turnHunk x] := by
  rw [List.take_add_one, hx]; simp [turnHunks]
end Go.Proofs.YtgabchhplmncnaaDoor
namespace Go.Proofs.YtgabchhplmncnaaDoor
open Go.RowKit

theorem elems_cells {α : Type} [Dat α] {w : World} {O : Nat → Prop} {b off : Nat} {m : List α} (h : Elems w O (some ⟨b, off, none⟩) m) : ∀ k, k ≤ m.length →
    ∃ news : List Value, news.length = k * Dat.n α ∧ (∀ (j : Nat) (u : Value), news[j]? = some u → w.cell? ⟨b, off + j, none⟩ = some u) ∧ (∀ u ∈ news, u.oneCell' = true) ∧
      (∀ (i : Nat) (x : α), i < k → m[i]? = some x → Dat.rd w O ((news.drop (i * Dat.n α)).take (Dat.n α)) x) := by
  intro k
  induction k with
  | zero => intro _; exact ⟨[], by simp, by simp, by simp, fun i x hi => by omega⟩
  | succ k ih =>
    intro hk
    obtain ⟨news, h1, h2, h3, h4⟩ := ih (by omega)
    have hx : m[k]? = some m[k] := by simp
    obtain ⟨b', off', es, he, hb, hcs, hr⟩ := h k m[k] hx
    simp only [Option.some.injEq, Addr.mk.injEq, and_true] at he
    obtain ⟨rfl, rfl⟩ := he
    have hes := Dat.len hr
    refine ⟨news ++ es, by rw [List.length_append, h1, hes, Nat.succ_mul], ?_, ?_, ?_⟩
    · intro j u hj
      rcases Nat.lt_or_ge j news.length with hl | hl
      · rw [List.getElem?_append_left hl] at hj
        exact h2 j u hj
      · rw [List.getElem?_append_right hl] at hj
        have := hcs _ u hj
        rw [show off + k * Dat.n α + (j - news.length) = off + j by omega] at this
        exact this
    · intro u hu
      rcases List.mem_append.1 hu with hu | hu
      · exact h3 u hu
      · exact Dat.one hr u hu
    · intro i x hi hxi
      rcases Nat.lt_or_ge i k with hl | hl
      · have hle : i * Dat.n α + Dat.n α ≤ news.length := by rw [h1, ← Nat.succ_mul]; exact Nat.mul_le_mul_right _ hl
        rw [List.drop_append_of_le_length (by omega), List.take_append_of_le_length (by rw [List.length_drop]; omega)]
        exact h4 i x hl hxi
      · obtain rfl : i = k := by omega
        rw [hx] at hxi
        injection hxi with hxi
        subst hxi
        rw [← h1, List.drop_left, List.take_of_length_le (by omega)]
        exact hr

theorem run_append_empty {P : Program} {t ty e : TypeId} {n : Nat} (hP : ElemOk P t e n) {w : World} {v : Value} {m : Nat} {xs : List Value} (hown : w.ownsRow 0 e n v m xs) (a : Option Addr) (c : Nat) :
    (Builtin.append_ #[t, t] ty #[v, .slice a 0 c]).run P w = .ok v w := by
  obtain ⟨i, z, hi, _⟩ := hP.info
  have ht := hP.ht
  cases a with
  | none =>
    rcases hown.2 with ⟨rfl, rfl⟩ | ⟨g, cap, cur, rfl, _, _, hnc, _⟩
    · simp [Builtin.append_, run_underlying ht, sizeOf, typeInfo, hi, Builtin.lenOf, Builtin.firstCells]
    · simp [Builtin.append_, run_underlying ht, sizeOf, typeInfo, hi, Builtin.lenOf, Builtin.firstCells, hnc, storeCells]
  | some a =>
    rcases hown.2 with ⟨rfl, rfl⟩ | ⟨g, cap, cur, rfl, _, _, hnc, _⟩
    · simp [Builtin.append_, run_underlying ht, sizeOf, typeInfo, hi, Builtin.lenOf, Builtin.firstCells, loadCells, loadCellsFrom]
    · simp [Builtin.append_, run_underlying ht, sizeOf, typeInfo, hi, Builtin.lenOf, Builtin.firstCells, loadCells, loadCellsFrom, hnc, storeCells]

theorem run_many {P : Program} {α : Type} [Dat α] {t ty e : TypeId} (hP : ElemOk P t e (Dat.n α)) {w0 : World} {O : Nat → Prop} {v x : Value} {l m : List α}
    (hown : Own e w0 O v l) (hx : Rdv w0 Never x m) (hd : ∀ cs y, Dat.rd w0 Never cs (y : α) → Dat.rd w0 (fun k => O k ∨ v.ownBlock = some k) cs y) (hO : ∀ k, O k → k < w0.heap.size) (hlen : l.length + m.length ≤ 1000000000) :
    ∃ v' w', (Builtin.append_ #[t, t] ty #[v, x]).run P w0 = .ok v' w' ∧ Own e w' O v' (l ++ m) ∧ Chg (OwnB v) w0 w' := by
  obtain ⟨a, cap, rfl, c1, c2, hel⟩ := rdv_slice hx
  rcases Nat.eq_zero_or_pos m.length with h0 | hpos
  · have : m = [] := List.eq_nil_of_length_eq_zero h0
    subst this
    refine ⟨v, w0, ?_, by rw [List.append_nil]; exact hown, Chg.refl _ _⟩
    obtain ⟨xs, hrow, _⟩ := hown
    exact run_append_empty hP hrow a cap
  · obtain ⟨b, off, rfl⟩ : ∃ b off, a = some ⟨b, off, none⟩ := by
      obtain ⟨b, off, es, ha, _⟩ := hel 0 m[0] (by simp [hpos])
      exact ⟨b, off, ha⟩
    obtain ⟨i, z, hi, hz, hsz, hzs, hby⟩ := hP.info
    obtain ⟨xs, hrow, hb, hels⟩ := id hown
    obtain ⟨news, n1, n2, n3, n4⟩ := elems_cells hel m.length (Nat.le_refl _)
    have hpos' := Dat.pos (α := α)
    have hcells : ∀ j u, news[j]? = some u → w0.cell? ((⟨b, off, none⟩ : Addr).add j) = some u := by
      intro j u hj
      have e1 : (⟨b, off, none⟩ : Addr).add j = ⟨b, off + j, none⟩ := by unfold Addr.add; split <;> simp_all
      rw [e1]
      exact n2 j u hj
    have hbound : (l.length + m.length) * i.bytes ≤ 140737488355328 := by
      have := Nat.mul_le_mul hlen hby
      omega
    obtain ⟨v', w', hrun, hown', hgrow, hnil⟩ := run_append_own (P := P) w0 0 t ty e i z (Dat.n α) i.bytes hP.ht hi hz hsz rfl hzs hpos' v l.length xs hrow
      ⟨b, off, none⟩ m.length cap news n1 hcells n3 (by unfold maxLen; omega) hbound (Nat.zero_le _)
    obtain ⟨kb, hkb, hkb'⟩ := append_block (P := P) w0 0 t ty e i z (Dat.n α) i.bytes hP.ht hi hz hsz rfl v l.length xs hrow
      ⟨b, off, none⟩ m.length cap news n1 hcells n3 (by unfold maxLen; omega) hbound (by omega) hrun
    have hc : Chg (OwnB v) w0 w' := Chg.of_grown hgrow
    have hsub : ∀ k, k < w0.heap.size → (O k ∨ v'.ownBlock = some k) → (O k ∨ v.ownBlock = some k) := by
      rintro k hk (h | h)
      · exact .inl h
      · rw [hkb] at h
        injection h with h
        subst h
        rcases hkb' with h | h
        · exact .inr h
        · omega
    refine ⟨v', w', hrun, ⟨xs ++ news, ?_, ?_, ?_⟩, hc⟩
    · rw [List.length_append]; exact hown'
    · intro k hk ho
      rw [hkb] at hk
      injection hk with hk
      subst hk
      rcases hkb' with h | h
      · exact hb _ h ho
      · exact absurd (hO _ ho) (by omega)
    · intro j y hj
      have hxl : xs.length = l.length * Dat.n α := hrow.1
      rcases Nat.lt_or_ge j l.length with hjl | hjl
      · rw [List.getElem?_append_left hjl] at hj
        have hle : j * Dat.n α + Dat.n α ≤ xs.length := by rw [hxl, ← Nat.succ_mul]; exact Nat.mul_le_mul_right _ hjl
        rw [List.drop_append_of_le_length (by omega), List.take_append_of_le_length (by rw [List.length_drop]; omega)]
        exact Dat.keep (hels j y hj) hc (fun k _ hk => .inr hk) hsub
      · rw [List.getElem?_append_right hjl] at hj
        have hjm := (List.getElem?_eq_some_iff.1 hj).1
        have e1 : (xs ++ news).drop (j * Dat.n α) = news.drop ((j - l.length) * Dat.n α) := by
          have e2 : j * Dat.n α = xs.length + (j - l.length) * Dat.n α := by rw [hxl, ← Nat.add_mul]; congr 1; omega
          rw [e2, List.drop_append]
          simp
        rw [e1]
        exact Dat.keep (hd _ _ (n4 _ y hjm hj)) hc (fun k _ hk => .inr hk) hsub

theorem wpList_many {P : Program} {ops : Array Oper} {rest : List Oper} {o : Oper} {a : Act} {Q : Exit → Act → World → Prop} (hgd : o.guard = none) (s x : Operand) (t : TypeId)
    (ho : o.op = .call { callee := .builtin .append, args := #[s, x], argTypes := #[t, t] }) {α : Type} [Dat α] {e : TypeId} (hP : ElemOk P t e (Dat.n α)) {w0 : World} {O : Nat → Prop} {v u : Value} {l m : List α}
    (hs : a.eval s = v) (hx : a.eval x = u) (hown : Own e w0 O v l) (hu : Rdv w0 Never u m) (hd : ∀ cs y, Dat.rd w0 Never cs (y : α) → Dat.rd w0 (fun k => O k ∨ v.ownBlock = some k) cs y) (hO : ∀ k, O k → k < w0.heap.size) (hlen : l.length + m.length ≤ 1000000000)
    (h : ∀ v' w', Own e w' O v' (l ++ m) → Chg (OwnB v) w0 w' → wpList P ops Q rest (a.put o.dst v') w') :
    wpList P ops Q (o :: rest) a w0 := by
  refine wpList_plain hgd fun K hK => ?_
  obtain ⟨v', w', hrun, h1, h2⟩ := run_many (ty := o.type) hP hown hu hd hO hlen
  unfold Oper.wp execOp
  simp only [ho, resolve, invoke, builtin, Sem.run_bind, Sem.run_pure, Result.andThen_ok, List.map_toArray, List.map_cons, List.map_nil, hs, hx, hrun]
  exact hK _ _ (h v' w' h1 h2)

/-! ### a slice's slice -/
theorem elems_sub {α : Type} [Dat α] {w : World} {O : Nat → Prop} {b off : Nat} {l : List α} (h : Elems w O (some ⟨b, off, none⟩) l) (i k : Nat) : Elems w O (some ⟨b, off + i * Dat.n α, none⟩) ((l.drop i).take k) := by
  intro q x hx
  rw [List.getElem?_take] at hx
  split at hx
  · rw [List.getElem?_drop] at hx
    obtain ⟨b', off', es, he, hb, hcs, hr⟩ := h (i + q) x hx
    simp only [Option.some.injEq, Addr.mk.injEq, and_true] at he
    obtain ⟨rfl, rfl⟩ := he
    refine ⟨b, _, es, rfl, hb, ?_, hr⟩
    rw [Nat.add_assoc, ← Nat.add_mul]
    exact hcs
  · cases hx
/-- 's[i:j]' as a value -/
theorem rdv_sliced {α : Type} [Dat α] {w : World} {O : Nat → Prop} {a : Option Addr} {cap : Nat} {l : List α} (h : Rdv w O (.slice a l.length cap) l) (i j : Nat) (hij : i ≤ j) (hj : j ≤ l.length) :
    Rdv w O (sliced a i j cap (Dat.n α)) ((l.drop i).take (j - i)) := by
  obtain ⟨a', cap', e, h1, h2, h3⟩ := rdv_slice h
  simp only [Value.slice.injEq, true_and] at e
  obtain ⟨rfl, rfl⟩ := e
  have hl : ((l.drop i).take (j - i)).length = j - i := by rw [List.length_take, List.length_drop]; omega
  refine ⟨if cap = i then a else a.map (·.add (i * Dat.n α)), cap - i, by rw [hl]; rfl, by rw [hl]; omega, by omega, ?_⟩
  by_cases hc : cap = i
  · have : (l.drop i).take (j - i) = [] := List.eq_nil_of_length_eq_zero (by rw [hl]; omega)
    rw [this]
    intro q x hx
    simp at hx
  · rw [if_neg hc]
    intro q x hx
    have hq := (List.getElem?_eq_some_iff.1 hx).1
    have hpos : 0 < l.length := by rw [hl] at hq; omega
    obtain ⟨b, off, es, ha, _⟩ := h3 0 l[0] (by simp [hpos])
    subst ha
    have e1 : (some (⟨b, off, none⟩ : Addr)).map (·.add (i * Dat.n α)) = some ⟨b, off + i * Dat.n α, none⟩ := by
      simp only [Option.map_some]
      unfold Addr.add
      split <;> simp_all
    rw [e1]
    exact elems_sub h3 i (j - i) q x hx
theorem sliced_isSlice (a : Option Addr) (i j cap s : Nat) : ∃ b, sliced a i j cap s = .slice b (j - i) (cap - i) := ⟨_, rfl⟩
end Go.Proofs.YtgabchhplmncnaaDoor
namespace Go.Proofs.YtgabchhplmncnaaDoor
open Go.RowKit

def makeFault (a b : List ByteArray) (n : Int) : Int := if checkedFault a b ≠ 0 then checkedFault a b else cutFault (script a b) n
def makeR (a b : List ByteArray) (n : Int) : List Hunk := if checkedFault a b = 0 then cutR (script a b) n else []
theorem str_bne_true {x y : ByteArray} (h : x ≠ y) : (x.toList != y.toList) = true := by
  have := str_beq_false h
  simp only [bne, this, Bool.not_false]
theorem size_str (w : World) : (sizeOf (Tryd.prog.elem 51)).run Tryd.prog w = .ok 1 w := by kernel_rfl
/-- 'a[i:j]' of texts, as a run -/
theorem slice_str {w0 : World} {O : Nat → Prop} {a : Option Addr} {cap : Nat} {l : List ByteArray} (h : Rdv w0 O (.slice a l.length cap) l) (i j : Nat) (hij : i ≤ j) (hj : j ≤ l.length) :
    ∃ b, (∀ (x y : Int) (w : World), x = i → y = j → (Instr.slice 51 (.slice a l.length cap) (some (.int .i64 x)) (some (.int .i64 y)) none).run Tryd.prog w = .ok (.slice b (j - i) (cap - i)) w) ∧
      (∀ (x : Int) (w : World), x = i → j = l.length → (Instr.slice 51 (.slice a l.length cap) (some (.int .i64 x)) none none).run Tryd.prog w = .ok (.slice b (j - i) (cap - i)) w) ∧
      Rdv w0 O (.slice b (j - i) (cap - i)) ((l.drop i).take (j - i)) := by
  have hr := rdv_sliced h i j hij hj
  obtain ⟨b, hb⟩ := sliced_isSlice a i j cap 1
  obtain ⟨a', cap', e, h1, h2, h3⟩ := rdv_slice h
  simp only [Value.slice.injEq, true_and] at e
  obtain ⟨rfl, rfl⟩ := e
  refine ⟨b, ?_, ?_, hb ▸ hr⟩
  · rintro x y w rfl rfl
    rw [run_slice_lh w 51 a l.length cap (by kernel_rfl) .i64 .i64 _ _ (by omega) (by omega) (by omega), size_str]
    simp only [Result.andThen_ok, Int.toNat_natCast]
    rw [hb]
  · rintro x w rfl rfl
    rw [run_slice_l w 51 a l.length cap (by kernel_rfl) .i64 _ (by omega) (by omega), size_str]
    simp only [Result.andThen_ok, Int.toNat_natCast]
    rw [hb]

end Go.Proofs.YtgabchhplmncnaaDoor
namespace Go.Proofs.YtgabchhplmncnaaDoor
open Go.RowKit

theorem elems_list {α : Type} [Dat α] {w : World} {O : Nat → Prop} {a : Option Addr} {l : List (List α)} (h : Elems w O a l) {i : Nat} {x : List α} (hx : l[i]? = some x) :
    ∃ b off v, a = some ⟨b, off, none⟩ ∧ ¬ O b ∧ b < w.heap.size ∧ w.cell? ⟨b, off + i, none⟩ = some v ∧ Rdv w O v x := by
  obtain ⟨b, off, es, ha, hb, hcs, hr⟩ := h i x hx
  obtain ⟨v, rfl⟩ : ∃ v, es = [v] := by
    have hl : es.length = 1 := Dat.len hr
    match es, hl with
    | [v], _ => exact ⟨v, rfl⟩
  refine ⟨b, off, v, ha, hb, hcs.lt (by simp), ?_, hr⟩
  have := hcs 0 v rfl
  simpa [Dat.n] using this
theorem flatten_take {l : List (List ByteArray)} {k : Nat} {x : List ByteArray} (hx : l[k]? = some x) : (l.take (k + 1)).flatten = (l.take k).flatten ++ x := by
  rw [List.take_add_one, hx]; simp
def totalOf (l : List (List ByteArray)) (k : Nat) : Nat := (l.take k).flatten.length
theorem flatten_take_le (l : List (List ByteArray)) (k : Nat) : (l.take k).flatten.length ≤ l.flatten.length := by
  have h : ((l.take k) ++ (l.drop k)).flatten.length = l.flatten.length := by rw [List.take_append_drop]
  rw [List.flatten_append, List.length_append] at h
  omega
theorem rd_str_any (w : World) (O O' : Nat → Prop) : ∀ cs (y : ByteArray), Dat.rd w O cs y → Dat.rd w O' cs y := fun _ _ h => h

end Go.Proofs.YtgabchhplmncnaaDoor
namespace Go.Proofs.YtgabchhplmncnaaDoor
open Go.RowKit

theorem own_shape {α : Type} [Dat α] {e : TypeId} {w : World} {O : Nat → Prop} {v : Value} {l : List α} (h : Own e w O v l) : ∃ a c, v = .slice a l.length c ∧ c ≤ maxLen := by
  obtain ⟨xs, hx, _⟩ := h
  rcases hx.2 with ⟨h, h0⟩ | ⟨g, cap, cur, h, _, _, _, hm, _⟩
  · exact ⟨none, 0, by rw [h, h0], Nat.zero_le _⟩
  · exact ⟨_, _, h, hm⟩

end Go.Proofs.YtgabchhplmncnaaDoor
namespace Go.Proofs.YtgabchhplmncnaaDoor
open Go.RowKit

theorem those_signs {l : List Mark} (h : scriptFault l = 0) {k : Nat} {x : Mark} (hx : l[k]? = some x) : x.sign = 32 ∨ x.sign = 45 ∨ x.sign = 43 := by
  have := (scriptFault_zero.1 h).2 x (List.mem_of_getElem? hx)
  unfold markFault at this
  by_cases h1 : x.sign ≠ 32 ∧ x.sign ≠ 45 ∧ x.sign ≠ 43
  · rw [if_pos h1] at this; simp at this
  · omega

set_option maxHeartbeats 1000000 in
set_option maxRecDepth 100000 in
theorem refNew_any (l : List Mark) (v : Value) (w : World) (h : Rdv w Never v l) (hz : scriptFault l = 0) :
    Calls Tryd.prog 13 #[v] w fun e w' => ∃ r, e = .returned r ∧ Chg Never w w' ∧ Rdv w' (Old w.heap.size) r (those l 45) := by
  have hlen := scriptFault_len hz
  have HZ := Lib.hid hz
  clear hz
  obtain ⟨a, cap, rfl, h1, h2, h3⟩ := rdv_slice h
  unfold maxLen at h2
  go_enter Tryd.func13, Tryd.ntmps13
  go_wp2_with fail
  go_loopw [3, 4] (fun o i wr => ∃ k : Nat, k ≤ l.length ∧ i = .int .i64 k ∧ Chg Never w wr ∧ Own 9 wr (Old w.heap.size) o (those (l.take k) 45)) (fun _ i _ => l.length - (intOf i).toNat)
  case atStart => exact ⟨0, Nat.zero_le _, rfl, Chg.refl _ _, own_nil _ _ _⟩
  case round =>
    obtain ⟨k, hk, rfl, hc, hown⟩ := hrel
    by_cases hlt : k < l.length
    · obtain ⟨x, hx⟩ : ∃ x, l[k]? = some x := ⟨l[k], by simp [hlt]⟩
      obtain ⟨b, off, rfl, _, _, c0, c1, s0, s1, hxs⟩ := elems_mark h3 hx
      have c0 := hc.cellNever c0
      have c1 := hc.cellNever c1
      have ht := Lib.hid (those_take (no := 45) hx)
      have hle := those_le (l.take k) 45
      have hle2 : (l.take k).length ≤ 120 := by simp; omega
      have hsg := those_signs HZ.out hx
      clear hx h3 h
      obtain ⟨sg, tx⟩ := x
      simp only at c0 c1 s0 s1 hxs hsg
      rcases hsg with rfl | rfl | rfl
      all_goals
        first
          | (have hno : Hid ((32 : Int) ≠ 45 ∧ True) := ⟨by decide, trivial⟩
             go_wp2_with (at_builtin; refine wpList_push (by rfl) _ _ 51 (by rfl) elemOk_str (O := Old w.heap.size) (l := those (l.take k) 45) (y := tx) (by rfl) (by rfl) (by simp) hown ⟨rfl, hxs⟩ (old_lt hc) (by omega) ?_; intro v' w2 hown2 hc2 _)
             have hc3 := own_step hc hown hc2
             clear hc2 hle hle2
             go_wp2_with fail
             go_roundw
             case rel => exact ⟨k + 1, by omega, by go_num, hc3, by rw [ht.out, if_neg (by simp)]; exact hown2⟩
             case measure => simp [intOf] <;> omega)
          | (clear hle hle2
             go_wp2_with fail
             go_roundw
             case rel => exact ⟨k + 1, by omega, by go_num, hc, by rw [ht.out, if_pos (by simp)]; exact hown⟩
             case measure => simp [intOf] <;> omega)
    · go_wp2_with fail
      go_ret
      rw [List.take_of_length_le (by omega)] at hown
      exact ⟨_, rfl, hc, hown.rdv⟩
set_option maxHeartbeats 1000000 in
set_option maxRecDepth 100000 in
theorem refOld_any (l : List Mark) (v : Value) (w : World) (h : Rdv w Never v l) (hz : scriptFault l = 0) :
    Calls Tryd.prog 12 #[v] w fun e w' => ∃ r, e = .returned r ∧ Chg Never w w' ∧ Rdv w' (Old w.heap.size) r (those l 43) := by
  have hlen := scriptFault_len hz
  have HZ := Lib.hid hz
  clear hz
  obtain ⟨a, cap, rfl, h1, h2, h3⟩ := rdv_slice h
  unfold maxLen at h2
  go_enter Tryd.func12, Tryd.ntmps12
  go_wp2_with fail
  go_loopw [3, 4] (fun o i wr => ∃ k : Nat, k ≤ l.length ∧ i = .int .i64 k ∧ Chg Never w wr ∧ Own 9 wr (Old w.heap.size) o (those (l.take k) 43)) (fun _ i _ => l.length - (intOf i).toNat)
  case atStart => exact ⟨0, Nat.zero_le _, rfl, Chg.refl _ _, own_nil _ _ _⟩
  case round =>
    obtain ⟨k, hk, rfl, hc, hown⟩ := hrel
    by_cases hlt : k < l.length
    · obtain ⟨x, hx⟩ : ∃ x, l[k]? = some x := ⟨l[k], by simp [hlt]⟩
      obtain ⟨b, off, rfl, _, _, c0, c1, s0, s1, hxs⟩ := elems_mark h3 hx
      have c0 := hc.cellNever c0
      have c1 := hc.cellNever c1
      have ht := Lib.hid (those_take (no := 43) hx)
      have hle := those_le (l.take k) 43
      have hle2 : (l.take k).length ≤ 120 := by simp; omega
      have hsg := those_signs HZ.out hx
      clear hx h3 h
      obtain ⟨sg, tx⟩ := x
      simp only at c0 c1 s0 s1 hxs hsg
      rcases hsg with rfl | rfl | rfl
      all_goals
        first
          | (have hno : Hid ((32 : Int) ≠ 43 ∧ True) := ⟨by decide, trivial⟩
             go_wp2_with (at_builtin; refine wpList_push (by rfl) _ _ 51 (by rfl) elemOk_str (O := Old w.heap.size) (l := those (l.take k) 43) (y := tx) (by rfl) (by rfl) (by simp) hown ⟨rfl, hxs⟩ (old_lt hc) (by omega) ?_; intro v' w2 hown2 hc2 _)
             have hc3 := own_step hc hown hc2
             clear hc2 hle hle2
             go_wp2_with fail
             go_roundw
             case rel => exact ⟨k + 1, by omega, by go_num, hc3, by rw [ht.out, if_neg (by simp)]; exact hown2⟩
             case measure => simp [intOf] <;> omega)
          | (clear hle hle2
             go_wp2_with fail
             go_roundw
             case rel => exact ⟨k + 1, by omega, by go_num, hc, by rw [ht.out, if_pos (by simp)]; exact hown⟩
             case measure => simp [intOf] <;> omega)
    · go_wp2_with fail
      go_ret
      rw [List.take_of_length_le (by omega)] at hown
      exact ⟨_, rfl, hc, hown.rdv⟩
end Go.Proofs.YtgabchhplmncnaaDoor
namespace Go.Proofs.YtgabchhplmncnaaDoor
open Go.RowKit

theorem nl_mem {s : ByteArray} {k : Nat} (hlt : k < s.size) (h : (((s[k]'hlt).toNat : Int) == 10) = true) : hasNl s = true := by
  unfold hasNl
  have h1 : (s[k]'hlt).toNat = 10 := by have := eq_of_beq h; omega
  have h2 : s[k]'hlt = (10 : UInt8) := UInt8.toNat_inj.1 h1
  have h3 : s.data[k]'hlt = (10 : UInt8) := h2
  rw [List.contains_iff_mem, Array.mem_toList_iff]
  rw [← h3]
  exact Array.getElem_mem _
theorem nl_none {s : ByteArray} (h : ∀ (j : Nat) (hj : j < s.size), (((s[j]'hj).toNat : Int) == 10) = false) : hasNl s = false := by
  unfold hasNl
  rw [Bool.eq_false_iff]
  intro e
  rw [List.contains_iff_mem, Array.mem_toList_iff] at e
  obtain ⟨j, hj, e⟩ := Array.mem_iff_getElem.1 e
  have := h j hj
  have h2 : s[j]'hj = (10 : UInt8) := e
  rw [h2] at this
  exact absurd this (by decide)

set_option maxHeartbeats 1000000 in
set_option maxRecDepth 100000 in
theorem refLine_any (s : ByteArray) (w : World) (hs : s.size ≤ maxLen) :
    Calls Tryd.prog 26 #[.string s] w fun e w' => e = .returned (.int .i64 (lineFault s)) ∧ Chg Never w w' := by
  unfold maxLen at hs
  go_enter Tryd.func26, Tryd.ntmps26
  go_wp2_with fail
  go_loopw [3] (fun i wr => ∃ k : Nat, k ≤ s.size ∧ i = .int .i64 k ∧ Chg Never w wr ∧ Hid (∀ (j : Nat), j < k → ∀ (hj : j < s.size), (((s[j]'hj).toNat : Int) == 10) = false)) (fun i _ => s.size - (intOf i).toNat)
  case atStart => exact ⟨0, Nat.zero_le _, rfl, Chg.refl _ _, fun j h => absurd h (Nat.not_lt_zero j)⟩
  case round =>
    obtain ⟨k, hk, rfl, hc, hf⟩ := hrel
    by_cases hlt : k < s.size
    · cases hq : (((s[k]'hlt).toNat : Int) == 10) with
      | true =>
        have HN := Lib.hid (nl_mem hlt hq)
        go_wp2_with fail
        go_ret
        exact ⟨by rw [lineFault, if_pos HN.out]; rfl, hc⟩
      | false =>
        have HQ : Hid ((((s[k]'hlt).toNat : Int) == 10) = false) := hq
        go_wp2_with fail
        go_roundw
        case rel => exact ⟨k + 1, by omega, by go_num, hc, fun j hj hj' => by
          by_cases e : j = k
          · subst e; exact HQ.out
          · exact hf.out j (by omega) hj'⟩
        case measure => simp [intOf] <;> omega
    · have HN := Lib.hid (nl_none (fun j hj => hf.out j (by omega) hj))
      clear hf
      by_cases h80 : 80 < s.size
      · go_wp2_with fail
        go_ret
        exact ⟨by rw [lineFault, if_neg (by rw [HN.out]; decide), if_pos h80]; rfl, hc⟩
      · go_wp2_with fail
        go_ret
        exact ⟨by rw [lineFault, if_neg (by rw [HN.out]; decide), if_neg h80]; rfl, hc⟩

theorem firstOf_bad {α : Type} (f : α → Int) : ∀ (l : List α) (k : Nat) (x : α), (∀ y ∈ l.take k, f y = 0) → l[k]? = some x → f x ≠ 0 → firstOf f l = f x
  | [], _, _, _, h, _ => by simp at h
  | y :: r, 0, x, _, h, hx => by
    simp only [List.getElem?_cons_zero, Option.some.injEq] at h
    subst h
    rw [firstOf, if_neg hx]
  | y :: r, k + 1, x, ha, h, hx => by
    rw [firstOf, if_pos (ha y (by simp))]
    exact firstOf_bad f r k x (fun z hz => ha z (by simp [hz])) (by simpa using h) hx
theorem take_all_succ {α : Type} {p : α → Prop} {l : List α} {k : Nat} {x : α} (h : ∀ y ∈ l.take k, p y) (hx : l[k]? = some x) (hp : p x) : ∀ y ∈ l.take (k + 1), p y := by
  intro y hy
  rw [List.take_add_one, hx] at hy
  rcases List.mem_append.1 hy with h' | h'
  · exact h y h'
  · simp at h'; rw [h']; exact hp

theorem markFault_line' {sg : Int} (h : sg = 32 ∨ sg = 45 ∨ sg = 43) (tx : ByteArray) : markFault ⟨sg, tx⟩ = lineFault tx := by
  unfold markFault
  rw [if_neg (by simp only []; omega)]
set_option maxHeartbeats 2000000 in
set_option maxRecDepth 100000 in
theorem refScript_any (l : List Mark) (v : Value) (w : World) (h : Rdv w Never v l) :
    Calls Tryd.prog 19 #[v] w fun e w' => e = .returned (.int .i64 (scriptFault l)) ∧ Chg Never w w' := by
  obtain ⟨a, cap, rfl, h1, h2, h3⟩ := rdv_slice h
  unfold maxLen at h2
  by_cases h60 : 120 < l.length
  · have HF : Hid (scriptFault l = 3) := if_pos h60
    go_enter Tryd.func19, Tryd.ntmps19
    go_wp2_with fail
    go_ret
    exact ⟨by rw [HF.out]; rfl, Chg.refl _ _⟩
  · have HF : Hid (scriptFault l = firstOf markFault l) := if_neg h60
    go_enter Tryd.func19, Tryd.ntmps19
    go_wp2_with fail
    go_loopw [3] (fun i wr => ∃ k : Nat, k ≤ l.length ∧ i = .int .i64 k ∧ Chg Never w wr ∧ Hid (∀ y ∈ l.take k, markFault y = 0)) (fun i _ => l.length - (intOf i).toNat)
    case atStart => exact ⟨0, Nat.zero_le _, rfl, Chg.refl _ _, fun y hy => by simp at hy⟩
    case round =>
      obtain ⟨k, hk, rfl, hc, hf⟩ := hrel
      by_cases hlt : k < l.length
      · obtain ⟨x, hx⟩ : ∃ x, l[k]? = some x := ⟨l[k], by simp [hlt]⟩
        obtain ⟨b, off, rfl, _, _, c0, c1, s0, s1, hxs⟩ := elems_mark h3 hx
        have c0 := hc.cellNever c0
        have c1 := hc.cellNever c1
        obtain ⟨sg, tx⟩ := x
        simp only at c0 c1 s0 s1 hxs
        have HX := Lib.hid hx
        clear hx h3 h
        by_cases hs : sg = 32 ∨ sg = 45 ∨ sg = 43
        · have HM := Lib.hid (markFault_line' hs tx)
          by_cases hz : lineFault tx = 0
          · have HZ : Hid (markFault ⟨sg, tx⟩ = 0) := by rw [Hid, HM.out, hz]
            have HL := Lib.hid hz
            clear hz
            rcases hs with rfl | rfl | rfl
            all_goals
              go_wp2_with fail
              refine (refLine_any tx _ hxs).mono ?_
              rintro e w2 ⟨rfl, hc2⟩
              rw [HL.out]
              have hc := hc.trans hc2
              go_wp2_with fail
              go_roundw
              case rel => exact ⟨k + 1, by omega, by go_num, hc, take_all_succ hf.out HX.out HZ.out⟩
              case measure => simp [intOf] <;> omega
          · have HB := Lib.hid (firstOf_bad markFault l k _ hf.out HX.out (by rw [HM.out]; exact hz))
            have t1 : (lineFault tx == 0) = false := by simp [hz]
            have t2 : (lineFault tx != 0) = true := by simp [hz]
            clear hz
            rcases hs with rfl | rfl | rfl
            all_goals
              go_wp2_with fail
              refine (refLine_any tx _ hxs).mono ?_
              rintro e w2 ⟨rfl, hc2⟩
              have hc := hc.trans hc2
              go_wp2_with fail
              go_ret
              exact ⟨by rw [HF.out, HB.out, HM.out]; rfl, hc⟩
        · have HZ : Hid (markFault ⟨sg, tx⟩ = 1) := by unfold Hid markFault; rw [if_pos (by simp only []; omega)]
          have HB := Lib.hid (firstOf_bad markFault l k _ hf.out HX.out (by rw [HZ.out]; decide))
          have t1 : (sg != 32) = true := by simp; omega
          have t2 : (sg != 45) = true := by simp; omega
          have t3 : (sg != 43) = true := by simp; omega
          clear hs
          go_wp2_with fail
          go_ret
          exact ⟨by rw [HF.out, HB.out, HZ.out]; rfl, hc⟩
      · have HZ := Lib.hid ((firstOf_zero markFault l).2 (fun y hy => hf.out y (by rw [List.take_of_length_le (by omega)]; exact hy)))
        go_wp2_with fail
        go_ret
        exact ⟨by rw [HF.out, HZ.out]; rfl, hc⟩
end Go.Proofs.YtgabchhplmncnaaDoor
namespace Go.Proofs.YtgabchhplmncnaaDoor
open Go.RowKit

theorem size_mark (w : World) : (sizeOf (Tryd.prog.elem 48)).run Tryd.prog w = .ok 2 w := by kernel_rfl
/-- 's[i:j]' as a run, at whatever element type -/
theorem slice_gen {P : Program} {t : TypeId} (ht : P.underlying t = some (.slice (P.elem t))) {α : Type} [Dat α] (hsz : ∀ w, (sizeOf (P.elem t)).run P w = .ok (Dat.n α) w) {w0 : World} {O : Nat → Prop} {a : Option Addr} {cap : Nat} {l : List α} (h : Rdv w0 O (.slice a l.length cap) l) (i j : Nat) (hij : i ≤ j) (hj : j ≤ l.length) :
    ∃ b, (∀ (x y : Int) (w : World), x = i → y = j → (Instr.slice t (.slice a l.length cap) (some (.int .i64 x)) (some (.int .i64 y)) none).run P w = .ok (.slice b (j - i) (cap - i)) w) ∧
      (∀ (x : Int) (w : World), x = i → j = l.length → (Instr.slice t (.slice a l.length cap) (some (.int .i64 x)) none none).run P w = .ok (.slice b (j - i) (cap - i)) w) ∧
      (∀ (y : Int) (w : World), i = 0 → y = j → (Instr.slice t (.slice a l.length cap) none (some (.int .i64 y)) none).run P w = .ok (.slice b (j - i) (cap - i)) w) ∧
      Rdv w0 O (.slice b (j - i) (cap - i)) ((l.drop i).take (j - i)) := by
  have hr := rdv_sliced h i j hij hj
  obtain ⟨b, hb⟩ := sliced_isSlice a i j cap (Dat.n α)
  obtain ⟨a', cap', e, h1, h2, h3⟩ := rdv_slice h
  simp only [Value.slice.injEq, true_and] at e
  obtain ⟨rfl, rfl⟩ := e
  refine ⟨b, ?_, ?_, ?_, hb ▸ hr⟩
  · rintro x y w rfl rfl
    rw [run_slice_lh w t a l.length cap ht .i64 .i64 _ _ (by omega) (by omega) (by omega), hsz]
    simp only [Result.andThen_ok, Int.toNat_natCast]
    rw [hb]
  · rintro x w rfl rfl
    rw [run_slice_l w t a l.length cap ht .i64 _ (by omega) (by omega), hsz]
    simp only [Result.andThen_ok, Int.toNat_natCast]
    rw [hb]
  · rintro y w rfl rfl
    rw [run_slice_h w t a l.length cap ht .i64 _ (by omega) (by omega), hsz]
    simp only [Result.andThen_ok, Int.toNat_natCast]
    rw [hb]
end Go.Proofs.YtgabchhplmncnaaDoor
namespace Go.Proofs.YtgabchhplmncnaaDoor
open Go.RowKit
theorem last_of {l : List (List UInt8)} (h : l ≠ []) : ∃ i z, l = i ++ [z] := ⟨l.dropLast, l.getLast h, (List.dropLast_concat_getLast h).symm⟩
theorem rdv_strs {w : World} {O : Nat → Prop} {g : Nat} {e : TypeId} {l : List ByteArray} {n : Nat} (h : w.heap[g]? = some (.cells (l.map Value.string).toArray e (0, 0))) (hO : ¬ O g) (hn : n = l.length) (hl : l.length ≤ maxLen) (hs : ∀ x ∈ l, x.size ≤ maxLen) : Rdv w O (.slice (some ⟨g, 0, none⟩) n n) l := by
  subst hn
  refine ⟨some ⟨g, 0, none⟩, l.length, rfl, Nat.le_refl _, hl, ?_⟩
  intro i x hx
  refine ⟨g, 0, [.string x], rfl, hO, ?_, rfl, hs x (List.mem_of_getElem? hx)⟩
  intro j u hj
  match j, hj with
  | 0, hj =>
    simp only [List.getElem?_cons_zero, Option.some.injEq] at hj
    subst hj
    simp only [World.cell?, h]
    simp [Dat.n, hx]
theorem suffix_snoc (b : List UInt8) : Lib.hasSuffix (b ++ [10]) [10] = true ∧ Lib.trimSuffix (b ++ [10]) [10] = b := by
  have e : Lib.hasSuffix (b ++ [10]) [10] = true := by
    unfold Lib.hasSuffix
    rw [List.isSuffixOf_iff_suffix]
    exact List.suffix_append b [10]
  refine ⟨e, ?_⟩
  unfold Lib.trimSuffix
  rw [if_pos e]
  simp
theorem suffix_not {b : List UInt8} {c : UInt8} (h : c ≠ 10) : Lib.hasSuffix (b ++ [c]) [10] = false := by
  unfold Lib.hasSuffix
  rw [Bool.eq_false_iff]
  intro e
  rw [List.isSuffixOf_iff_suffix] at e
  obtain ⟨t, ht⟩ := e
  have := (List.append_inj' ht rfl).2
  simp at this
  exact h this.symm
theorem str_ne_empty {s : ByteArray} (h : s ≠ ByteArray.empty) : ∃ b c, s.data.toList = b ++ [c] := by
  have hne : s.data.toList ≠ [] := by
    intro e
    apply h
    apply ByteArray.ext
    apply Array.toList_inj.1
    rw [e]; rfl
  exact ⟨s.data.toList.dropLast, s.data.toList.getLast hne, (List.dropLast_concat_getLast hne).symm⟩
end Go.Proofs.YtgabchhplmncnaaDoor
namespace Go.Proofs.YtgabchhplmncnaaDoor
open Go.RowKit

theorem parts_count (d : UInt8) : ∀ s, (parts d s).length ≤ s.length + 1
  | [] => by simp [parts]
  | c :: r => by
    have := parts_count d r
    by_cases h : c = d
    · subst h; rw [parts_sep]; simp; omega
    · obtain ⟨h', t, e⟩ := List.exists_cons_of_ne_nil (parts_ne d r)
      rw [parts_other h e]
      rw [e] at this
      simp at this ⊢
      omega

theorem joinL_size {l : List ByteArray} (h : ∀ x ∈ l, x.size ≤ 80) : (joinL l).length ≤ 81 * l.length := by
  induction l with
  | nil => simp [joinL]
  | cons x l ih =>
    have h1 := ih (fun y hy => h y (List.mem_cons_of_mem _ hy))
    have h2 := h x (List.mem_cons_self ..)
    rw [Lib.size_eq] at h2
    rw [joinL_cons]
    simp only [List.length_append, List.length_cons]
    omega
theorem linesFault_size {l : List ByteArray} (h : linesFault l = 0) : ∀ x ∈ l, x.size ≤ 80 := by
  unfold linesFault at h
  by_cases e : 60 < l.length
  · rw [if_pos e] at h; cases h
  · rw [if_neg e, firstOf_zero] at h
    intro x hx
    have := h x hx
    unfold lineFault at this
    by_cases e1 : hasNl x = true
    · rw [if_pos e1] at this; cases this
    · rw [if_neg e1] at this
      by_cases e2 : 80 < x.size
      · rw [if_pos e2] at this; cases this
      · omega
theorem joinOf_step {l : List ByteArray} {k : Nat} {x : ByteArray} (hx : l[k]? = some x) : joinOf (l.take k) ++ x ++ ⟨#[10]⟩ = joinOf (l.take (k + 1)) := by
  unfold joinOf
  rw [List.take_add_one, hx, joinL_append]
  apply ByteArray.ext
  apply Array.toList_inj.1
  rw [bytes_append, bytes_append, toB_data, toB_data]
  simp [joinL]
theorem joinL_step {l : List ByteArray} {k : Nat} {x : ByteArray} (hx : l[k]? = some x) : Lib.byteCells (joinL (l.take k)) ++ Lib.strCells x ++ [.int .u8 10] = Lib.byteCells (joinL (l.take (k + 1))) := by
  rw [List.take_add_one, hx, joinL_append, Lib.byteCells_append, Lib.strCells_eq, List.append_assoc]
  congr 1
  simp [joinL, Lib.byteCells_append]
  rfl

theorem parts_mem (d : UInt8) : ∀ (s : List UInt8) (x : List UInt8), x ∈ parts d s → x.length ≤ s.length
  | [], x, h => by simp [parts] at h; subst h; simp
  | c :: r, x, h => by
    have ih := parts_mem d r
    by_cases hc : c = d
    · subst hc
      rw [parts_sep] at h
      rcases List.mem_cons.1 h with rfl | h
      · simp
      · have := ih x h; simp; omega
    · obtain ⟨h', t, e⟩ := List.exists_cons_of_ne_nil (parts_ne d r)
      rw [parts_other hc e] at h
      rw [e] at ih
      rcases List.mem_cons.1 h with rfl | h
      · have := ih h' (List.mem_cons_self ..); simp; omega
      · have := ih x (List.mem_cons_of_mem _ h); simp; omega
end Go.Proofs.YtgabchhplmncnaaDoor
namespace Go.Proofs.YtgabchhplmncnaaDoor
open Go.RowKit

def letterI (c : Int) : Bool := decide (97 ≤ c) && decide (c ≤ 122) || decide (48 ≤ c) && decide (c ≤ 57) || (c == 46) || (c == 45)
theorem letterI_byte (c : UInt8) : letterI c.toNat = letterB c := by
  unfold letterI letterB
  have e1 : decide ((97 : Int) ≤ (c.toNat : Int)) = decide (97 ≤ c.toNat) := by congr 1; apply propext; omega
  have e2 : decide ((c.toNat : Int) ≤ 122) = decide (c.toNat ≤ 122) := by congr 1; apply propext; omega
  have e3 : decide ((48 : Int) ≤ (c.toNat : Int)) = decide (48 ≤ c.toNat) := by congr 1; apply propext; omega
  have e4 : decide ((c.toNat : Int) ≤ 57) = decide (c.toNat ≤ 57) := by congr 1; apply propext; omega
  have e5 : ((c.toNat : Int) == 46) = decide (c.toNat = 46) := by rw [Bool.eq_iff_iff, beq_iff_eq, decide_eq_true_eq]; omega
  have e6 : ((c.toNat : Int) == 45) = decide (c.toNat = 45) := by rw [Bool.eq_iff_iff, beq_iff_eq, decide_eq_true_eq]; omega
  rw [e1, e2, e3, e4, e5, e6]

set_option maxHeartbeats 1000000 in
theorem letter_any (c : Int) (w : World) (h0 : 0 ≤ c) (h1 : c < 256) :
    Calls Tryd.prog 44 #[.int .u8 c] w fun e w' => e = .returned (.bool (letterI c)) ∧ w' = w := by
  by_cases b1 : 97 ≤ c
  · by_cases b2 : c ≤ 122
    · have a1 : decide ((97 : Int) ≤ c) = true := by simp; omega
      have a2 : decide (c ≤ (122 : Int)) = true := by simp; omega
      have a3 : decide ((48 : Int) ≤ c) = true := by simp; omega
      have a4 : decide (c ≤ (57 : Int)) = false := by simp; omega
      have a5 : (c == 46) = false := by simp; omega
      have a6 : (c == 45) = false := by simp; omega
      have HL : Hid (letterI c = (true && true || true && false || false || false)) := by unfold Hid letterI; rw [a1, a2, a3, a4, a5, a6]
      try clear b5
      try clear b6
      go_enter Tryd.func44, Tryd.ntmps44
      go_wp2_with fail
      go_ret
      exact ⟨by rw [HL.out]; rfl, rfl⟩
    · have a1 : decide ((97 : Int) ≤ c) = true := by simp; omega
      have a2 : decide (c ≤ (122 : Int)) = false := by simp; omega
      have a3 : decide ((48 : Int) ≤ c) = true := by simp; omega
      have a4 : decide (c ≤ (57 : Int)) = false := by simp; omega
      have a5 : (c == 46) = false := by simp; omega
      have a6 : (c == 45) = false := by simp; omega
      have HL : Hid (letterI c = (true && false || true && false || false || false)) := by unfold Hid letterI; rw [a1, a2, a3, a4, a5, a6]
      try clear b5
      try clear b6
      go_enter Tryd.func44, Tryd.ntmps44
      go_wp2_with fail
      go_ret
      exact ⟨by rw [HL.out]; rfl, rfl⟩
  · by_cases b3 : 48 ≤ c
    · by_cases b4 : c ≤ 57
      · have a1 : decide ((97 : Int) ≤ c) = false := by simp; omega
        have a2 : decide (c ≤ (122 : Int)) = true := by simp; omega
        have a3 : decide ((48 : Int) ≤ c) = true := by simp; omega
        have a4 : decide (c ≤ (57 : Int)) = true := by simp; omega
        have a5 : (c == 46) = false := by simp; omega
        have a6 : (c == 45) = false := by simp; omega
        have HL : Hid (letterI c = (false && true || true && true || false || false)) := by unfold Hid letterI; rw [a1, a2, a3, a4, a5, a6]
        try clear b5
        try clear b6
        go_enter Tryd.func44, Tryd.ntmps44
        go_wp2_with fail
        go_ret
        exact ⟨by rw [HL.out]; rfl, rfl⟩
      · have a1 : decide ((97 : Int) ≤ c) = false := by simp; omega
        have a2 : decide (c ≤ (122 : Int)) = true := by simp; omega
        have a3 : decide ((48 : Int) ≤ c) = true := by simp; omega
        have a4 : decide (c ≤ (57 : Int)) = false := by simp; omega
        have a5 : (c == 46) = false := by simp; omega
        have a6 : (c == 45) = false := by simp; omega
        have HL : Hid (letterI c = (false && true || true && false || false || false)) := by unfold Hid letterI; rw [a1, a2, a3, a4, a5, a6]
        try clear b5
        try clear b6
        go_enter Tryd.func44, Tryd.ntmps44
        go_wp2_with fail
        go_ret
        exact ⟨by rw [HL.out]; rfl, rfl⟩
    · by_cases b5 : c = 46
      · have a1 : decide ((97 : Int) ≤ c) = false := by simp; omega
        have a2 : decide (c ≤ (122 : Int)) = true := by simp; omega
        have a3 : decide ((48 : Int) ≤ c) = false := by simp; omega
        have a4 : decide (c ≤ (57 : Int)) = true := by simp; omega
        have a5 : (c == 46) = true := by simp; omega
        have a6 : (c == 45) = false := by simp; omega
        have HL : Hid (letterI c = (false && true || false && true || true || false)) := by unfold Hid letterI; rw [a1, a2, a3, a4, a5, a6]
        try clear b5
        try clear b6
        go_enter Tryd.func44, Tryd.ntmps44
        go_wp2_with fail
        go_ret
        exact ⟨by rw [HL.out]; rfl, rfl⟩
      · by_cases b6 : c = 45
        · have a1 : decide ((97 : Int) ≤ c) = false := by simp; omega
          have a2 : decide (c ≤ (122 : Int)) = true := by simp; omega
          have a3 : decide ((48 : Int) ≤ c) = false := by simp; omega
          have a4 : decide (c ≤ (57 : Int)) = true := by simp; omega
          have a5 : (c == 46) = false := by simp; omega
          have a6 : (c == 45) = true := by simp; omega
          have HL : Hid (letterI c = (false && true || false && true || false || true)) := by unfold Hid letterI; rw [a1, a2, a3, a4, a5, a6]
          try clear b5
          try clear b6
          go_enter Tryd.func44, Tryd.ntmps44
          go_wp2_with fail
          go_ret
          exact ⟨by rw [HL.out]; rfl, rfl⟩
        · have a1 : decide ((97 : Int) ≤ c) = false := by simp; omega
          have a2 : decide (c ≤ (122 : Int)) = true := by simp; omega
          have a3 : decide ((48 : Int) ≤ c) = false := by simp; omega
          have a4 : decide (c ≤ (57 : Int)) = true := by simp; omega
          have a5 : (c == 46) = false := by simp; omega
          have a6 : (c == 45) = false := by simp; omega
          have HL : Hid (letterI c = (false && true || false && true || false || false)) := by unfold Hid letterI; rw [a1, a2, a3, a4, a5, a6]
          try clear b5
          try clear b6
          go_enter Tryd.func44, Tryd.ntmps44
          go_wp2_with fail
          go_ret
          exact ⟨by rw [HL.out]; rfl, rfl⟩

theorem emp_false {x : ByteArray} (h : x.data.toList ≠ []) : x.toList.isEmpty = false := by rw [Lib.toList_data]; simpa using h
theorem str_false {x : ByteArray} {l : List UInt8} (h : x.data.toList ≠ l) : (x.toList == l) = false := by rw [Lib.toList_data]; simpa using h
/-! ### names -/
theorem nameOk_iff {x : List UInt8} : nameOk x = true ↔ x ≠ [] ∧ x ≠ [46] ∧ x ≠ [46, 46] ∧ ∀ c ∈ x, letterB c = true := by
  unfold nameOk
  simp only [Bool.and_eq_true, Bool.not_eq_true', beq_eq_false_iff_ne, List.all_eq_true, ne_eq]
  constructor
  · rintro ⟨⟨⟨a, b⟩, c⟩, d⟩; exact ⟨a, b, c, d⟩
  · rintro ⟨a, b, c, d⟩; exact ⟨⟨⟨a, b⟩, c⟩, d⟩
theorem pathFault_long {s : ByteArray} (h : 20 < s.size) : pathFault s = 3 := if_pos h
theorem pathFault_bad {s : ByteArray} (h : ¬ 20 < s.size) {x : List UInt8} (hx : x ∈ parts 47 s.data.toList) (hb : nameOk x = false) : pathFault s = 5 := by
  unfold pathFault
  rw [if_neg h, if_neg]
  intro e
  rw [List.all_eq_true] at e
  rw [e x hx] at hb
  cases hb
theorem pathFault_ok {s : ByteArray} (h : ¬ 20 < s.size) (ha : ∀ x ∈ parts 47 s.data.toList, nameOk x = true) : pathFault s = 0 := by
  unfold pathFault
  rw [if_neg h, if_pos]
  rw [List.all_eq_true]; exact ha

set_option maxHeartbeats 1000000 in
set_option maxRecDepth 100000 in
theorem line_path_any (s : ByteArray) (w : World) (m : Int) (hm : w.cell? ⟨0, 0, none⟩ = some (.int .i64 m)) :
    Calls Tryd.prog 35 #[.string s] w fun e w' => e = .returned (errV (pathFault s)) ∧ Chg Never w w' := by
  by_cases h20 : 20 < s.size
  · have HF := Lib.hid (pathFault_long h20)
    go_enter Tryd.func35, Tryd.ntmps35
    go_wp2_with fail
    go_ret
    exact ⟨by rw [HF.out]; rfl, Chg.refl _ _⟩
  · have HB := fun x hx hb => pathFault_bad (x := x) h20 hx hb
    have HO := pathFault_ok h20
    have hcnt : (parts 47 s.data.toList).length ≤ s.size + 1 := by rw [Lib.size_eq]; exact parts_count 47 _
    have HSP : Hid (Lib.splitB ⟨#[47]⟩ 0 (Lib.countB s ⟨#[47]⟩) s = (parts 47 s.data.toList).map toB) := splitB_parts 47 s
    have HLEN : Hid (Lib.countB s ⟨#[47]⟩ + 1 = ((parts 47 s.data.toList).map toB).length) := by
      have := Lib.splitB_all ⟨#[47]⟩ (by decide) 0 _ s rfl
      rw [Hid, ← this, HSP.out]
    have hmem : ∀ x ∈ parts 47 s.data.toList, x.length ≤ s.size := fun x hx => by rw [Lib.size_eq]; exact parts_mem 47 _ x hx
    have HMEM := Lib.hid hmem
    have HCNT := Lib.hid hcnt
    clear hmem hcnt
    have HH := Lib.hid (And.intro HB HO)
    clear HB HO
    go_enter Tryd.func35, Tryd.ntmps35
    go_wp2_with fail
    refine (Tryd.strings_Split s ⟨#[47]⟩ m _ (by omega) hm (by decide)).mono ?_
    rintro e w2 ⟨rfl, rfl⟩
    rw [HSP.out, HLEN.out]
    have hmem := HMEM.out
    have hcnt := HCNT.out
    have hA : Chg Never w (w.alloc (.cells (((parts 47 s.data.toList).map toB).map Value.string).toArray 9)) := (Chg.refl Never w).alloc _
    have hR0 : Rdv (w.alloc (.cells (((parts 47 s.data.toList).map toB).map Value.string).toArray 9)) Never (.slice (some ⟨w.heap.size, 0, none⟩) ((parts 47 s.data.toList).map toB).length ((parts 47 s.data.toList).map toB).length) ((parts 47 s.data.toList).map toB) :=
      rdv_strs (heap_alloc_new _ _) (fun h => h) rfl (by rw [List.length_map]; unfold maxLen; omega) (fun x hx => by
        obtain ⟨y, hy, rfl⟩ := List.mem_map.1 hx
        rw [Lib.size_eq, toB_data]
        have := hmem y hy
        unfold maxLen; omega)
    have hLL : ((parts 47 s.data.toList).map toB).length ≤ 21 := by rw [List.length_map]; omega
    have HM : Hid (∀ x ∈ (parts 47 s.data.toList).map toB, x.data.toList ∈ parts 47 s.data.toList ∧ x.size ≤ 20) := by
      intro x hx
      obtain ⟨y, hy, rfl⟩ := List.mem_map.1 hx
      have := hmem y hy
      exact ⟨by rw [toB_data]; exact hy, by rw [Lib.size_eq, toB_data]; omega⟩
    have HM2 : Hid (∀ y ∈ parts 47 s.data.toList, toB y ∈ (parts 47 s.data.toList).map toB) := fun y hy => List.mem_map.2 ⟨y, hy, rfl⟩
    clear hmem hcnt HSP HLEN
    generalize (parts 47 s.data.toList).map toB = L at hR0 hA hLL HM HM2 ⊢
    generalize w.alloc (.cells (L.map Value.string).toArray 9) = w3 at hR0 hA ⊢
    obtain ⟨la, lc, hlv, h1, h2, h3⟩ := rdv_slice hR0
    simp only [Value.slice.injEq, true_and] at hlv
    obtain ⟨rfl, rfl⟩ := hlv
    go_wp2_with fail
    go_loop [13] (fun i => ∃ k : Nat, k ≤ L.length ∧ i = .int .i64 k ∧ Hid (∀ x ∈ L.take k, nameOk x.data.toList = true)) (fun i => L.length - (intOf i).toNat)
    case atStart => exact ⟨0, Nat.zero_le _, rfl, fun x hx => by simp at hx⟩
    case round =>
      obtain ⟨k, hk, rfl, hf⟩ := hrel
      by_cases hlt : k < L.length
      · obtain ⟨x, hx⟩ : ∃ x, L[k]? = some x := ⟨L[k], by simp [hlt]⟩
        obtain ⟨b, off, hbo, _, _, c0, hxs⟩ := elems_str h3 hx
        simp only [Option.some.injEq, Addr.mk.injEq, and_true] at hbo
        obtain ⟨rfl, rfl⟩ := hbo
        rw [Nat.zero_add] at c0
        obtain ⟨hxm, hx20⟩ := HM.out x (List.mem_of_getElem? hx)
        have HX := Lib.hid hx
        have HXM := Lib.hid hxm
        clear hx hxm
        by_cases b1 : x.data.toList = []
        · have HN := Lib.hid (HH.out.1 _ HXM.out (by rw [b1]; rfl))
          have t1 : x.toList.isEmpty = true := by rw [Lib.toList_data, b1]; rfl
          clear b1
          go_wp2_with fail
          go_ret
          exact ⟨by rw [HN.out]; rfl, hA⟩
        · have t1 := emp_false b1
          by_cases b2 : x.data.toList = [46]
          · have HN := Lib.hid (HH.out.1 _ HXM.out (by rw [b2]; rfl))
            have t2 : (x.toList == [46]) = true := by rw [Lib.toList_data, b2]; rfl
            clear b1 b2
            go_wp2_with fail
            go_ret
            exact ⟨by rw [HN.out]; rfl, hA⟩
          · have t2 := str_false b2
            by_cases b3 : x.data.toList = [46, 46]
            · have HN := Lib.hid (HH.out.1 _ HXM.out (by rw [b3]; rfl))
              have t3 : (x.toList == [46, 46]) = true := by rw [Lib.toList_data, b3]; rfl
              clear b1 b2 b3
              go_wp2_with fail
              go_ret
              exact ⟨by rw [HN.out]; rfl, hA⟩
            · have t3 := str_false b3
              have HBB := Lib.hid (And.intro b1 (And.intro b2 b3))
              clear b1 b2 b3
              go_wp2_with fail
              go_loop [30] (fun i => ∃ j : Nat, j ≤ x.size ∧ i = .int .i64 j ∧ Hid (∀ q, q < j → ∀ c, x.data.toList[q]? = some c → letterB c = true)) (fun i => x.size - (intOf i).toNat)
              case atStart => exact ⟨0, Nat.zero_le _, rfl, fun q h => absurd h (Nat.not_lt_zero q)⟩
              case round =>
                obtain ⟨j, hj, rfl, hl⟩ := hrel
                by_cases hjl : j < x.size
                · have HAT := Lib.hid (byte_at hjl)
                  have hlt256 := (x[j]'hjl).toNat_lt
                  cases hlb : letterI ((x[j]'hjl).toNat : Int) with
                  | true =>
                    have HLB : Hid (letterB (x[j]'hjl) = true) := by rw [Hid, ← letterI_byte]; exact hlb
                    go_wp2_with fail
                    refine (letter_any _ _ (by omega) (by omega)).mono ?_
                    rintro e w5 ⟨rfl, hw5⟩
                    rw [hw5, hlb]
                    clear hlb hw5
                    go_wp2_with fail
                    go_round
                    case rel => exact ⟨j + 1, by omega, by go_num, fun q hq c hc => by
                      by_cases e : q = j
                      · subst e
                        rw [HAT.out] at hc
                        injection hc with hc
                        rw [← hc]; exact HLB.out
                      · exact hl.out q (by omega) c hc⟩
                    case measure => simp [intOf] <;> omega
                  | false =>
                    have HN := Lib.hid (HH.out.1 _ HXM.out (by
                      rw [Bool.eq_false_iff]
                      intro e
                      have := (nameOk_iff.1 e).2.2.2 _ (List.mem_of_getElem? HAT.out)
                      rw [← letterI_byte, hlb] at this
                      cases this))
                    go_wp2_with fail
                    refine (letter_any _ _ (by omega) (by omega)).mono ?_
                    rintro e w5 ⟨rfl, hw5⟩
                    rw [hw5, hlb]
                    clear hlb hw5
                    go_wp2_with fail
                    go_ret
                    exact ⟨by rw [HN.out]; rfl, hA⟩
                · have HOK : Hid (nameOk x.data.toList = true) := nameOk_iff.2 ⟨HBB.out.1, HBB.out.2.1, HBB.out.2.2, fun c hc => by
                    obtain ⟨q, hq⟩ := List.getElem?_of_mem hc
                    have hql := (List.getElem?_eq_some_iff.1 hq).1
                    rw [← Lib.size_eq] at hql
                    exact hl.out q (by omega) c hq⟩
                  clear hl
                  go_wp2_with fail
                  go_round
                  case rel => exact ⟨k + 1, by omega, by go_num, take_all_succ hf.out HX.out HOK.out⟩
                  case measure => simp [intOf] <;> omega
      · go_wp2_with fail
        go_ret
        have e := hf.out
        rw [List.take_of_length_le (by omega)] at e
        have e2 : pathFault s = 0 := HH.out.2 (fun y hy => by have := e _ (HM2.out y hy); rw [toB_data] at this; exact this)
        exact ⟨by rw [e2]; rfl, hA⟩

/-! ### the document's way -/
theorem parts_head {d : UInt8} : ∀ {a : List UInt8} (r : List UInt8), (∀ x ∈ a, x ≠ d) → ∃ t u, parts d (a ++ r) = (a ++ t) :: u ∧ parts d r = t :: u
  | [], r, _ => by
    obtain ⟨h', t, e⟩ := List.exists_cons_of_ne_nil (parts_ne d r)
    exact ⟨h', t, e, e⟩
  | c :: a, r, h => by
    obtain ⟨t, u, e1, e2⟩ := parts_head (a := a) r (fun x hx => h x (List.mem_cons_of_mem _ hx))
    exact ⟨t, u, parts_other (h c (List.mem_cons_self ..)) e1, e2⟩
structure NameInv (s : ByteArray) (q k : Nat) (L : List ByteArray) : Prop where
  p : PartsInv 47 s q k L
  ok : ∀ x ∈ L, nameOk x.data.toList = true
  let_ : ∀ j, q ≤ j → j < k → ∀ c, s.data.toList[j]? = some c → letterB c = true
theorem ninv_start (s : ByteArray) : NameInv s 0 0 [] := ⟨pinv_start _ _, fun x h => by simp at h, fun j _ h => absurd h (Nat.not_lt_zero j)⟩
theorem NameInv.step {s : ByteArray} {q k : Nat} {L : List ByteArray} {c : UInt8} (h : NameInv s q k L) (hk : s.data.toList[k]? = some c) (hc : c ≠ 47) (hl : letterB c = true) : NameInv s q (k + 1) L :=
  ⟨h.p.step hk hc, h.ok, fun j h1 h2 d hd => by
    by_cases e : j = k
    · subst e
      rw [hk] at hd
      injection hd with hd
      rw [← hd]; exact hl
    · exact h.let_ j h1 (by omega) d hd⟩
theorem NameInv.bad {s : ByteArray} {q k : Nat} {L : List ByteArray} {c : UInt8} (h : NameInv s q k L) (hq : q ≤ k) (hk : s.data.toList[k]? = some c) (hc : c ≠ 47) (hl : letterB c = false) : ∃ x ∈ parts 47 s.data.toList, nameOk x = false := by
  have e : s.data.toList.drop q = (s.data.toList.drop q).take (k - q) ++ c :: s.data.toList.drop (k + 1) := by
    conv => lhs; rw [← List.take_append_drop (k - q) (s.data.toList.drop q), List.drop_drop, show q + (k - q) = k by omega, drop_eq hk]
  obtain ⟨h', t', e3⟩ := List.exists_cons_of_ne_nil (parts_ne 47 (s.data.toList.drop (k + 1)))
  have hns := no_sep h.p.2
  generalize (s.data.toList.drop q).take (k - q) = A at e hns
  obtain ⟨t, u, e1, e2⟩ := parts_head (c :: s.data.toList.drop (k + 1)) hns
  rw [parts_other hc e3] at e2
  injection e2 with e2 e2'
  refine ⟨A ++ t, ?_, ?_⟩
  · rw [h.p.1, e, e1]
    exact List.mem_append_right _ (List.mem_cons_self ..)
  · rw [Bool.eq_false_iff]
    intro hn
    have hct : c ∈ t := by rw [← e2]; exact List.mem_cons_self ..
    have := (nameOk_iff.1 hn).2.2.2 c (List.mem_append_right _ hct)
    rw [hl] at this
    cases this
theorem NameInv.name {s : ByteArray} {q k : Nat} {L : List ByteArray} (h : NameInv s q k L) : ∀ c ∈ (s.extract q k).data.toList, letterB c = true := by
  intro c hc
  rw [Lib.extract_data] at hc
  obtain ⟨i, hi⟩ := List.getElem?_of_mem hc
  rw [List.getElem?_take] at hi
  split at hi
  · rw [List.getElem?_drop] at hi
    exact h.let_ (q + i) (by omega) (by omega) c hi
  · cases hi
theorem NameInv.nameMem {s : ByteArray} {q k : Nat} {L : List ByteArray} (h : NameInv s q k L) (hq : q ≤ k) (hk : s.data.toList[k]? = some 47 ∨ k = s.size) : (s.extract q k).data.toList ∈ parts 47 s.data.toList := by
  rcases hk with hk | rfl
  · have e := (h.p.cut hq hk).1
    rw [e]
    exact List.mem_append_left _ (List.mem_map.2 ⟨_, List.mem_append_right _ (List.mem_cons_self ..), rfl⟩)
  · have e := h.p.fin
    have hm : s.extract q s.size ∈ (parts 47 s.data.toList).map toB := by rw [e]; exact List.mem_append_right _ (List.mem_cons_self ..)
    obtain ⟨y, hy, e2⟩ := List.mem_map.1 hm
    rw [← e2, toB_data]; exact hy
theorem NameInv.cut {s : ByteArray} {q k : Nat} {L : List ByteArray} (h : NameInv s q k L) (hq : q ≤ k) (hk : s.data.toList[k]? = some 47) (hn : nameOk (s.extract q k).data.toList = true) : NameInv s (k + 1) (k + 1) (L ++ [s.extract q k]) :=
  ⟨h.p.cut hq hk, fun x hx => by
    rcases List.mem_append.1 hx with hx | hx
    · exact h.ok x hx
    · rw [List.mem_singleton] at hx
      rw [hx]; exact hn, fun j h1 h2 => by omega⟩
theorem NameInv.all {s : ByteArray} {q : Nat} {L : List ByteArray} (h : NameInv s q s.size L) (hn : nameOk (s.extract q s.size).data.toList = true) : ∀ x ∈ parts 47 s.data.toList, nameOk x = true := by
  intro x hx
  have hm : toB x ∈ (parts 47 s.data.toList).map toB := List.mem_map.2 ⟨x, hx, rfl⟩
  rw [h.p.fin] at hm
  have : nameOk (toB x).data.toList = true := by
    rcases List.mem_append.1 hm with hm | hm
    · exact h.ok _ hm
    · rw [List.mem_singleton] at hm
      rw [hm]; exact hn
  rwa [toB_data] at this
/-- where the loop over the letters stands: at a letter, or behind the end -/
def PathSt (s : ByteArray) (q k : Nat) : Prop := (k ≤ s.size → ∃ L, NameInv s q k L) ∧ (k = s.size + 1 → ∀ x ∈ parts 47 s.data.toList, nameOk x = true)

set_option maxHeartbeats 2000000 in
set_option maxRecDepth 100000 in
theorem refPath_any (s : ByteArray) (w : World) :
    Calls Tryd.prog 10 #[.string s] w fun e w' => e = .returned (.int .i64 (pathFault s)) ∧ Chg Never w w' := by
  by_cases h20 : 20 < s.size
  · have HF := Lib.hid (pathFault_long h20)
    go_enter Tryd.func10, Tryd.ntmps10
    go_wp2_with fail
    go_ret
    exact ⟨by rw [HF.out]; rfl, Chg.refl _ _⟩
  · have h20' : s.size ≤ 20 := by omega
    go_enter Tryd.func10, Tryd.ntmps10
    go_wp2_with fail
    go_loopw [3, 4] (fun fr i wr => ∃ (q k : Nat), fr = .int .i64 q ∧ i = .int .i64 k ∧ q ≤ k ∧ k ≤ s.size + 1 ∧ Chg Never w wr ∧ Hid (PathSt s q k)) (fun _ i _ => s.size + 1 - (intOf i).toNat)
    case atStart => exact ⟨0, 0, rfl, rfl, Nat.le_refl _, Nat.zero_le _, Chg.refl _ _, ⟨fun _ => ⟨[], ninv_start s⟩, fun e => by omega⟩⟩
    case round =>
      obtain ⟨q, k, rfl, rfl, hqk, hk, hc, hS⟩ := hrel
      by_cases hle : k ≤ s.size
      · obtain ⟨L, hNI⟩ := hS.out.1 hle
        have HNI := Lib.hid hNI
        clear hNI hS
        by_cases hlt : k < s.size
        · have HB := Lib.hid (byte_at hlt)
          have h256 := (s[k]'hlt).toNat_lt
          cases hq : (((s[k]'hlt).toNat : Int) == 47) with
          | false =>
            have t0 : (((s[k]'hlt).toNat : Int) != 47) = true := by simpa using hq
            have HC := Lib.hid (byte_ne (d := 47) hq rfl)
            clear hq
            by_cases c1 : 97 ≤ (s[k]'hlt).toNat
            · by_cases c2 : (s[k]'hlt).toNat ≤ 122
              · have a1 : decide (((s[k]'hlt).toNat : Int) < 97) = false := by simp; omega
                have a2 : decide ((122 : Int) < ((s[k]'hlt).toNat : Int)) = false := by simp; omega
                have a3 : decide (((s[k]'hlt).toNat : Int) < 48) = false := by simp; omega
                have a4 : decide ((57 : Int) < ((s[k]'hlt).toNat : Int)) = true := by simp; omega
                have a5 : (((s[k]'hlt).toNat : Int) != 46) = true := by simp; omega
                have a6 : (((s[k]'hlt).toNat : Int) != 45) = true := by simp; omega
                have HLB : Hid (letterB (s[k]'hlt) = true) := by
                  unfold Hid letterB
                  simp only [Bool.or_eq_true, Bool.and_eq_true, decide_eq_true_eq]
                  omega
                have HST : Hid (PathSt s q (k + 1)) := ⟨fun _ => ⟨L, HNI.out.step HB.out HC.out HLB.out⟩, fun e => by omega⟩
                go_wp2_with fail
                go_roundw
                case rel => exact ⟨q, k + 1, rfl, by go_num, by omega, by omega, hc, HST⟩
                case measure => simp [intOf] <;> omega
              · have a1 : decide (((s[k]'hlt).toNat : Int) < 97) = false := by simp; omega
                have a2 : decide ((122 : Int) < ((s[k]'hlt).toNat : Int)) = true := by simp; omega
                have a3 : decide (((s[k]'hlt).toNat : Int) < 48) = false := by simp; omega
                have a4 : decide ((57 : Int) < ((s[k]'hlt).toNat : Int)) = true := by simp; omega
                have a5 : (((s[k]'hlt).toNat : Int) != 46) = true := by simp; omega
                have a6 : (((s[k]'hlt).toNat : Int) != 45) = true := by simp; omega
                have HLB : Hid (letterB (s[k]'hlt) = false) := by
                  rw [Hid, Bool.eq_false_iff]
                  unfold letterB
                  simp only [ne_eq, Bool.or_eq_true, Bool.and_eq_true, decide_eq_true_eq]
                  omega
                have HF : Hid (pathFault s = 5) := by
                  obtain ⟨x, hx, hb⟩ := HNI.out.bad hqk HB.out HC.out HLB.out
                  exact pathFault_bad h20 hx hb
                go_wp2_with fail
                go_ret
                exact ⟨by rw [HF.out]; rfl, hc⟩
            · by_cases c3 : 48 ≤ (s[k]'hlt).toNat
              · by_cases c4 : (s[k]'hlt).toNat ≤ 57
                · have a1 : decide (((s[k]'hlt).toNat : Int) < 97) = true := by simp; omega
                  have a2 : decide ((122 : Int) < ((s[k]'hlt).toNat : Int)) = false := by simp; omega
                  have a3 : decide (((s[k]'hlt).toNat : Int) < 48) = false := by simp; omega
                  have a4 : decide ((57 : Int) < ((s[k]'hlt).toNat : Int)) = false := by simp; omega
                  have a5 : (((s[k]'hlt).toNat : Int) != 46) = true := by simp; omega
                  have a6 : (((s[k]'hlt).toNat : Int) != 45) = true := by simp; omega
                  have HLB : Hid (letterB (s[k]'hlt) = true) := by
                    unfold Hid letterB
                    simp only [Bool.or_eq_true, Bool.and_eq_true, decide_eq_true_eq]
                    omega
                  have HST : Hid (PathSt s q (k + 1)) := ⟨fun _ => ⟨L, HNI.out.step HB.out HC.out HLB.out⟩, fun e => by omega⟩
                  go_wp2_with fail
                  go_roundw
                  case rel => exact ⟨q, k + 1, rfl, by go_num, by omega, by omega, hc, HST⟩
                  case measure => simp [intOf] <;> omega
                · have a1 : decide (((s[k]'hlt).toNat : Int) < 97) = true := by simp; omega
                  have a2 : decide ((122 : Int) < ((s[k]'hlt).toNat : Int)) = false := by simp; omega
                  have a3 : decide (((s[k]'hlt).toNat : Int) < 48) = false := by simp; omega
                  have a4 : decide ((57 : Int) < ((s[k]'hlt).toNat : Int)) = true := by simp; omega
                  have a5 : (((s[k]'hlt).toNat : Int) != 46) = true := by simp; omega
                  have a6 : (((s[k]'hlt).toNat : Int) != 45) = true := by simp; omega
                  have HLB : Hid (letterB (s[k]'hlt) = false) := by
                    rw [Hid, Bool.eq_false_iff]
                    unfold letterB
                    simp only [ne_eq, Bool.or_eq_true, Bool.and_eq_true, decide_eq_true_eq]
                    omega
                  have HF : Hid (pathFault s = 5) := by
                    obtain ⟨x, hx, hb⟩ := HNI.out.bad hqk HB.out HC.out HLB.out
                    exact pathFault_bad h20 hx hb
                  go_wp2_with fail
                  go_ret
                  exact ⟨by rw [HF.out]; rfl, hc⟩
              · by_cases c5 : (s[k]'hlt).toNat = 46
                · have a1 : decide (((s[k]'hlt).toNat : Int) < 97) = true := by simp; omega
                  have a2 : decide ((122 : Int) < ((s[k]'hlt).toNat : Int)) = false := by simp; omega
                  have a3 : decide (((s[k]'hlt).toNat : Int) < 48) = true := by simp; omega
                  have a4 : decide ((57 : Int) < ((s[k]'hlt).toNat : Int)) = false := by simp; omega
                  have a5 : (((s[k]'hlt).toNat : Int) != 46) = false := by simp; omega
                  have a6 : (((s[k]'hlt).toNat : Int) != 45) = true := by simp; omega
                  have HLB : Hid (letterB (s[k]'hlt) = true) := by
                    unfold Hid letterB
                    simp only [Bool.or_eq_true, Bool.and_eq_true, decide_eq_true_eq]
                    omega
                  have HST : Hid (PathSt s q (k + 1)) := ⟨fun _ => ⟨L, HNI.out.step HB.out HC.out HLB.out⟩, fun e => by omega⟩
                  go_wp2_with fail
                  go_roundw
                  case rel => exact ⟨q, k + 1, rfl, by go_num, by omega, by omega, hc, HST⟩
                  case measure => simp [intOf] <;> omega
                · by_cases c6 : (s[k]'hlt).toNat = 45
                  · have a1 : decide (((s[k]'hlt).toNat : Int) < 97) = true := by simp; omega
                    have a2 : decide ((122 : Int) < ((s[k]'hlt).toNat : Int)) = false := by simp; omega
                    have a3 : decide (((s[k]'hlt).toNat : Int) < 48) = true := by simp; omega
                    have a4 : decide ((57 : Int) < ((s[k]'hlt).toNat : Int)) = false := by simp; omega
                    have a5 : (((s[k]'hlt).toNat : Int) != 46) = true := by simp; omega
                    have a6 : (((s[k]'hlt).toNat : Int) != 45) = false := by simp; omega
                    have HLB : Hid (letterB (s[k]'hlt) = true) := by
                      unfold Hid letterB
                      simp only [Bool.or_eq_true, Bool.and_eq_true, decide_eq_true_eq]
                      omega
                    have HST : Hid (PathSt s q (k + 1)) := ⟨fun _ => ⟨L, HNI.out.step HB.out HC.out HLB.out⟩, fun e => by omega⟩
                    go_wp2_with fail
                    go_roundw
                    case rel => exact ⟨q, k + 1, rfl, by go_num, by omega, by omega, hc, HST⟩
                    case measure => simp [intOf] <;> omega
                  · have a1 : decide (((s[k]'hlt).toNat : Int) < 97) = true := by simp; omega
                    have a2 : decide ((122 : Int) < ((s[k]'hlt).toNat : Int)) = false := by simp; omega
                    have a3 : decide (((s[k]'hlt).toNat : Int) < 48) = true := by simp; omega
                    have a4 : decide ((57 : Int) < ((s[k]'hlt).toNat : Int)) = false := by simp; omega
                    have a5 : (((s[k]'hlt).toNat : Int) != 46) = true := by simp; omega
                    have a6 : (((s[k]'hlt).toNat : Int) != 45) = true := by simp; omega
                    have HLB : Hid (letterB (s[k]'hlt) = false) := by
                      rw [Hid, Bool.eq_false_iff]
                      unfold letterB
                      simp only [ne_eq, Bool.or_eq_true, Bool.and_eq_true, decide_eq_true_eq]
                      omega
                    have HF : Hid (pathFault s = 5) := by
                      obtain ⟨x, hx, hb⟩ := HNI.out.bad hqk HB.out HC.out HLB.out
                      exact pathFault_bad h20 hx hb
                    go_wp2_with fail
                    go_ret
                    exact ⟨by rw [HF.out]; rfl, hc⟩
          | true =>
            have t0 : (((s[k]'hlt).toNat : Int) != 47) = false := by simpa using hq
            have HC : Hid (s.data.toList[k]? = some 47) := by rw [Hid, HB.out, byte_eq (d := 47) hq rfl]
            have HMEM := Lib.hid (HNI.out.nameMem hqk (.inl HC.out))
            clear hq
            by_cases b1 : (s.extract q k).data.toList = []
            · have HN := Lib.hid (pathFault_bad h20 HMEM.out (by rw [b1]; rfl))
              have t1 : (s.extract q k).toList.isEmpty = true := by rw [Lib.toList_data, b1]; rfl
              clear b1
              go_wp2_with fail
              go_ret
              exact ⟨by rw [HN.out]; rfl, hc⟩
            · have t1 := emp_false b1
              by_cases b2 : (s.extract q k).data.toList = [46]
              · have HN := Lib.hid (pathFault_bad h20 HMEM.out (by rw [b2]; rfl))
                have t2 : ((s.extract q k).toList == [46]) = true := by rw [Lib.toList_data, b2]; rfl
                clear b1 b2
                go_wp2_with fail
                go_ret
                exact ⟨by rw [HN.out]; rfl, hc⟩
              · have t2 := str_false b2
                by_cases b3 : (s.extract q k).data.toList = [46, 46]
                · have HN := Lib.hid (pathFault_bad h20 HMEM.out (by rw [b3]; rfl))
                  have t3 : ((s.extract q k).toList == [46, 46]) = true := by rw [Lib.toList_data, b3]; rfl
                  clear b1 b2 b3
                  go_wp2_with fail
                  go_ret
                  exact ⟨by rw [HN.out]; rfl, hc⟩
                · have t3 := str_false b3
                  have HOK : Hid (nameOk (s.extract q k).data.toList = true) := nameOk_iff.2 ⟨b1, b2, b3, HNI.out.name⟩
                  clear b1 b2 b3
                  have HST : Hid (PathSt s (k + 1) (k + 1)) := ⟨fun _ => ⟨_, HNI.out.cut hqk HC.out HOK.out⟩, fun e => by omega⟩
                  go_wp2_with fail
                  go_roundw
                  case rel => exact ⟨k + 1, k + 1, by go_num, by go_num, Nat.le_refl _, by omega, hc, HST⟩
                  case measure => simp [intOf] <;> omega
        · have hks : k = s.size := by omega
          have HMEM := Lib.hid (HNI.out.nameMem hqk (.inr hks))
          have HKS := Lib.hid hks
          clear hks
          by_cases b1 : (s.extract q k).data.toList = []
          · have HN := Lib.hid (pathFault_bad h20 HMEM.out (by rw [b1]; rfl))
            have t1 : (s.extract q k).toList.isEmpty = true := by rw [Lib.toList_data, b1]; rfl
            clear b1
            go_wp2_with fail
            go_ret
            exact ⟨by rw [HN.out]; rfl, hc⟩
          · have t1 := emp_false b1
            by_cases b2 : (s.extract q k).data.toList = [46]
            · have HN := Lib.hid (pathFault_bad h20 HMEM.out (by rw [b2]; rfl))
              have t2 : ((s.extract q k).toList == [46]) = true := by rw [Lib.toList_data, b2]; rfl
              clear b1 b2
              go_wp2_with fail
              go_ret
              exact ⟨by rw [HN.out]; rfl, hc⟩
            · have t2 := str_false b2
              by_cases b3 : (s.extract q k).data.toList = [46, 46]
              · have HN := Lib.hid (pathFault_bad h20 HMEM.out (by rw [b3]; rfl))
                have t3 : ((s.extract q k).toList == [46, 46]) = true := by rw [Lib.toList_data, b3]; rfl
                clear b1 b2 b3
                go_wp2_with fail
                go_ret
                exact ⟨by rw [HN.out]; rfl, hc⟩
              · have t3 := str_false b3
                have HOK : Hid (nameOk (s.extract q k).data.toList = true) := nameOk_iff.2 ⟨b1, b2, b3, HNI.out.name⟩
                clear b1 b2 b3
                have HST : Hid (PathSt s (k + 1) (k + 1)) := ⟨fun e => by have := HKS.out; omega, fun _ => by have a := HNI.out; have b := HOK.out; rw [HKS.out] at a b; exact a.all b⟩
                go_wp2_with fail
                go_roundw
                case rel => exact ⟨k + 1, k + 1, by go_num, by go_num, Nat.le_refl _, by omega, hc, HST⟩
                case measure => simp [intOf] <;> omega
      · have HF : Hid (pathFault s = 0) := pathFault_ok h20 (hS.out.2 (by omega))
        clear hS
        go_wp2_with fail
        go_ret
        exact ⟨by rw [HF.out]; rfl, hc⟩
end Go.Proofs.YtgabchhplmncnaaDoor
namespace Go.Proofs.YtgabchhplmncnaaDoor
open Go.RowKit

theorem elems_file {w : World} {O : Nat → Prop} {a : Option Addr} {l : List File} (h : Elems w O a l) {i : Nat} {x : File} (hx : l[i]? = some x) :
    ∃ b off v, a = some ⟨b, off, none⟩ ∧ ¬ O b ∧ b < w.heap.size ∧ w.cell? ⟨b, off + i * 2, none⟩ = some (.string x.path) ∧ w.cell? ⟨b, off + i * 2 + 1, none⟩ = some v ∧ x.path.size ≤ maxLen ∧ Rdv w O v x.lines := by
  obtain ⟨b, off, es, ha, hb, hcs, v, rfl, hp, hv⟩ := h i x hx
  refine ⟨b, off, v, ha, hb, hcs.lt (by simp), ?_, ?_, hp, hv⟩
  · simpa [Dat.n] using hcs 0 _ rfl
  · simpa [Dat.n] using hcs 1 _ rfl
def prevOf (t : List File) (k : Nat) : Option ByteArray := if k = 0 then none else (t[k - 1]?).map (·.path)
theorem prevOf_succ {t : List File} {k : Nat} {f : File} (h : t[k]? = some f) : prevOf t (k + 1) = some f.path := by unfold prevOf; simp [h]
theorem treeGo_next {t : List File} {k : Nat} {f : File} {prev : Option ByteArray} (hd : t.drop k = f :: t.drop (k + 1)) (h1 : fileFault f = 0) (h2 : prev.any (fun p => leqB f.path p) = false) : treeGo k prev (t.drop k) = treeGo (k + 1) (some f.path) (t.drop (k + 1)) := by
  rw [hd, treeGo, if_neg (by simp [h1]), if_neg (by rw [h2]; decide)]
theorem treeGo_bad {t : List File} {k : Nat} {f : File} {prev : Option ByteArray} (hd : t.drop k = f :: t.drop (k + 1)) (h1 : fileFault f ≠ 0) : treeGo k prev (t.drop k) = (k, fileFault f) := by
  rw [hd, treeGo, if_pos h1]
theorem treeGo_order {t : List File} {k : Nat} {f : File} {p : ByteArray} (hd : t.drop k = f :: t.drop (k + 1)) (h1 : fileFault f = 0) (h2 : leqB f.path p = true) : treeGo k (some p) (t.drop k) = (k, 2) := by
  rw [hd, treeGo, if_neg (by simp [h1]), if_pos (by simpa using h2)]
theorem treeGo_end {t : List File} {prev : Option ByteArray} : treeGo t.length prev (t.drop t.length) = (0, 0) := by rw [List.drop_length]; rfl

/-- what Place answers -/
def placeI (t : List File) (p : ByteArray) : Int := match placeOf t p with | some i => i | none => -1
end Go.Proofs.YtgabchhplmncnaaDoor
namespace Go.Proofs.YtgabchhplmncnaaDoor
open Go.RowKit

theorem elemOk_change : ElemOk Tryd.prog 26 25 3 := elemOk_of Tryd.underlying26 (z := .agg #[.int .i64 0, .string ⟨#[]⟩, .slice none 0 0]) (b := 48) (by kernel_rfl) rfl (by decide)
theorem size_change (w : World) : (sizeOf (Tryd.prog.elem 26)).run Tryd.prog w = .ok 3 w := by kernel_rfl
theorem elems_change {w : World} {O : Nat → Prop} {a : Option Addr} {l : List Change} (h : Elems w O a l) {i : Nat} {x : Change} (hx : l[i]? = some x) :
    ∃ b off v, a = some ⟨b, off, none⟩ ∧ ¬ O b ∧ b < w.heap.size ∧ w.cell? ⟨b, off + i * 3, none⟩ = some (.int .i64 x.what) ∧ w.cell? ⟨b, off + i * 3 + 1, none⟩ = some (.string x.path) ∧ w.cell? ⟨b, off + i * 3 + 2, none⟩ = some v ∧ x.path.size ≤ maxLen ∧ Rdv w O v x.hunks := by
  obtain ⟨b, off, es, ha, hb, hcs, v, rfl, hp, hv⟩ := h i x hx
  refine ⟨b, off, v, ha, hb, hcs.lt (by simp), ?_, ?_, ?_, hp, hv⟩
  · simpa [Dat.n] using hcs 0 _ rfl
  · simpa [Dat.n] using hcs 1 _ rfl
  · simpa [Dat.n] using hcs 2 _ rfl

theorem two_keep {w0 w w' : World} {a b : Addr} {x y : Value} (h : Chg Never w0 w ∧ w.cell? a = some x ∧ w.cell? b = some y) (hc : Chg Never w w') : Chg Never w0 w' ∧ w'.cell? a = some x ∧ w'.cell? b = some y :=
  ⟨h.1.trans hc, hc.cellNever h.2.1, hc.cellNever h.2.2⟩

end Go.Proofs.YtgabchhplmncnaaDoor
