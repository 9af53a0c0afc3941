/-
  PARTS: A RANGE OVER AN ITERATOR THAT KEEPS ITS STATE IN ONE CELL (a captured variable), whose loop body never leaves: the law of the statement. No program in sight.; TEXTS AS LINES, PATHS, in plain Lean (chapter 1).; TREES, in plain Lean (chapter 2): files by path, in order.; TREES BY WHAT IS LOOKED UP IN THEM, in plain Lean: what put and drop do to each path; two trees in which each path reads the same are the same.; A NUMBER OF A DRAWING REGION IS TAKEN FIRST, in short words.; THE WALKS of strings.Builder's methods at a builder of one's own: copyCheck, WriteString, WriteByte.; A SLICE THAT THE CALL ITSELF BUILDS BY append ('Own'): kept, pushed onto, read. No program in sight.; THE WALK of the document's Parts (a text of its own: no function of layers 1 to 9 in it).
-/
import Derived.RangeFuncWrites
import Derived.RangeFuncCalls
import Derived.RangeFuncLeaves
import Derived.RangeFuncBound
import Derived.Test.YtmjpfoeaobdaeaaGreatDoorRa1
import Derived.Lib.Split
import Derived.Lib.Bytealg
import GoSem.Op.String
import Derived.OrdersHeld
import Derived.Deep.RegionHeld3
import Derived.Shelf.Strings.BuilderK
set_option linter.unusedVariables false
set_option linter.unusedSimpArgs false
namespace Go.Proofs.YtmjpfoeaobdaeaaGreatDoor
open Go.RowKit

def CellKept (B : Nat) (W W' : World) : Prop := W'.cell? ⟨B, 0, none⟩ = W.cell? ⟨B, 0, none⟩ ∧ W'.frozen? ⟨B, 0, none⟩ = W.frozen? ⟨B, 0, none⟩
theorem CellKept.trans {B : Nat} {X Y Z : World} (h : CellKept B X Y) (k : CellKept B Y Z) : CellKept B X Z := ⟨k.1.trans h.1, k.2.trans h.2⟩
theorem CellKept.of_block {B : Nat} {W W' : World} (h : W'.heap[B]? = W.heap[B]?) : CellKept B W W' := ⟨World.cell?_of_block h, World.frozen?_of_block h⟩
def Gives {α : Type} (n : Nat) (P : Program) (gf : Nat) (lb : Array Value) (enc : α → Value) (B : Nat) (xs : List α) (w : World) : Prop :=
  ∀ (l : Nat) (J : List α → World → Prop) (W : World), Chg Never w W → (∀ pre W v, J pre W → J pre (W.setCell ⟨B, 0, none⟩ v)) → (∀ pre W, J pre W → J pre W.drew) →
    (∀ pre x W1, J pre W1 → (∃ r, xs = pre ++ x :: r) → YieldAt Fence.wide (n - 1) P l #[enc x] W1 fun e W' => e = .returned (.bool true) ∧ J (pre ++ [x]) W' ∧ CellKept B W1 W') →
    J [] W → CallsIn Fence.wide n P gf (#[.func (.yield l) #[] #[]] ++ lb) W fun e W' => (∃ v, e = .returned v) ∧ J xs W'
def roundEnds {α : Type} (B D : Nat) (I : List α → World → Prop) (xs : List α) (W : World) : Exit → Act → World → Prop
  | .normal, _, W' => KeepsFrom D W W' ∧ CellKept B W W' ∧ I xs W'
  | _, _, _ => False

theorem wpIn_rangeFunc_gives {α : Type} {n : Nat} {P : Program} {g : Operand} {ps : Array Tmp} {assign body : Code} {Q : Exit → Act → World → Prop} {a : Act} {w : World}
    (h1 : 1 ≤ n) {gf : Nat} {lb : Array Value} (hg : a.eval g = .func (.func gf) #[] lb) (eg : ∀ args w, (callFunc gf args).run P w = .ok (.enter gf args) w)
    {enc : α → Value} {B : Nat} {xs : List α} (hseq : Gives (n - 1) P gf lb enc B xs w) (hB : B < w.heap.size) (hps : ps.size = 1)
    (I : List α → World → Prop) (hIp : ∀ pre W k o o', w.heap.size ≤ k → W.heap[k]? = some o → o.isCells = false → I pre W → I pre (W.putObj k o'))
    (hIs : ∀ pre W v, I pre W → I pre (W.setCell ⟨B, 0, none⟩ v)) (hId : ∀ pre W, I pre W → I pre W.drew) (h0 : ∀ o1 o2, I [] ((w.alloc o1).alloc o2)) (a₁ : α → Act)
    (hassign : ∀ (l : Nat) (x : α) (W : World) (K : Act → World → Prop), K (a₁ x) W →
      assign.wpIn (Fence.wide.inRound l) (n - 1 - 1) P (Exit.then K (fun _ _ _ => False)) { tmps := (ps.zip #[enc x]).foldl (fun t (p, v) => t.setIfInBounds p v) a.tmps, defers := [] } W)
    (hbody : ∀ (l : Nat) (pre : List α) (x : α) (W : World), I pre W → (∃ r, xs = pre ++ x :: r) → body.wpIn (Fence.wide.inRound l) (n - 1 - 1) P (roundEnds B w.heap.size I (pre ++ [x]) W) (a₁ x) W)
    (hdone : ∀ (D : Nat) (W : World), w.heap.size ≤ D → I xs W → W.heap[D]? = some (.deferred (some [])) → Q .normal { a with defers := { target := .collected D, args := #[] } :: a.defers } W) :
    (Code.rangeFunc g ps assign body).wpIn Fence.wide n P Q a w := by
  refine wpIn_rangeFunc ?_
  intro fn hfn
  rw [show Fence.wide.round = none from rfl]
  obtain ⟨rec, hrec⟩ : ∃ rec : LoopState → Option Code → Loop, rec = fun st pe => { state := st, pending := pe, fn, tmps := a.tmps, params := ps, assign, body, defers := w.heap.size } := ⟨_, rfl⟩
  obtain ⟨W1, hW1⟩ : ∃ W1, (w.alloc (.deferred (some []))).alloc (.loop (rec .ready none)) = W1 := ⟨_, rfl⟩
  have hL1 : W1.heap[w.heap.size + 1]? = some (.loop (rec .ready none)) := by
    rw [← hW1]; have := World.alloc_heap_new (w.alloc (.deferred (some []))) (.loop (rec .ready none)); rwa [World.size_alloc] at this
  have hK1 : W1.heap[w.heap.size]? = some (.deferred (some [])) := by
    rw [← hW1]; exact (Below.heap_alloc _ _ _ (by simp)).trans (World.alloc_heap_new w _)
  have hI1 : I [] W1 := by rw [← hW1]; exact h0 _ _
  have hb1 : Chg Never w W1 := by rw [← hW1]; exact ((Chg.refl Never w).alloc _).alloc _
  refine ⟨w.heap.size + 1, [{ target := .collected w.heap.size, args := #[] }], W1, { target := .fn (.func gf) lb, args := #[.func (.yield (w.heap.size + 1)) #[] #[]] }, W1, gf,
    #[.func (.yield (w.heap.size + 1)) #[] #[]] ++ lb, W1, ?_, ?_, ?_, ?_, fun _ => h1, ?_⟩
  · rw [← hW1, hrec]; exact run_enterLoop_outer _ _ _ _ _
  · simp only [resolve, hg]
    simp [go_sem]
  · intro f' _; trivial
  · simp [invoke, go_sem, eg]
  · have hput : ∀ (W : World) (k : Nat) (o' : Obj), w.heap.size ≤ k → CellKept B W (W.putObj k o') := fun W k o' hk => CellKept.of_block (World.putObj_heap_other (by omega))
    refine (hseq (w.heap.size + 1)
      (fun pre W => I pre W ∧ W.heap[w.heap.size + 1]? = some (.loop (rec .ready none)) ∧ W.heap[w.heap.size]? = some (.deferred (some [])))
      W1 hb1
      (fun pre W v hs => ⟨hIs pre W v hs.1, (Below.heap_setCell W ⟨B, 0, none⟩ v (w.heap.size + 1) (by show w.heap.size + 1 ≠ B; omega)).trans hs.2.1, (Below.heap_setCell W ⟨B, 0, none⟩ v w.heap.size (by show w.heap.size ≠ B; omega)).trans hs.2.2⟩)
      (fun pre W hs => ⟨hId pre W hs.1, hs.2.1, hs.2.2⟩)
      ?_ ⟨hI1, hL1, hK1⟩).mono ?_
    · rintro pre x W ⟨hi, hl, hk⟩ hlen
      have hlt : w.heap.size + 1 < W.heap.size := (Array.getElem?_eq_some_iff.1 hl).1
      have hy := run_yield (P := P) (args := #[enc x]) hl (by rw [hrec]; simp [hps])
      rw [hrec] at hy
      refine ⟨fn, _, assign, body, hy, roundIn_of_wpIn hfn (hassign _ x W _ ⟨_, run_beginRound hl (by rw [hrec]), ?_⟩)⟩
      have hl2 : (W.putObj (w.heap.size + 1) (.loop { rec .ready none with state := .busy })).heap[w.heap.size + 1]? = some (.loop { rec .ready none with state := .busy }) := World.putObj_heap_same hlt
      have hk2 : (W.putObj (w.heap.size + 1) (.loop { rec .ready none with state := .busy })).heap[w.heap.size]? = some (.deferred (some [])) := (World.putObj_heap_other (by omega)).trans hk
      have hw2 := hput W (w.heap.size + 1) (.loop { rec .ready none with state := .busy }) (by omega)
      refine wpIn_mono (hbody _ pre x _ (hIp _ _ _ _ _ (by omega) hl rfl hi) hlen) ?_
      rintro e a3 W3 hp
      cases e with
      | normal =>
        obtain ⟨hk3, hc3, hi3⟩ := hp
        have hl3 := hk3.same _ _ (by omega) hl2 rfl
        have hr := run_endRound (P := P) none hl3
        rw [hrec] at hr
        refine ⟨_, _, hr, rfl, ⟨hIp _ _ _ _ _ (by omega) hl3 rfl hi3, ?_, (World.putObj_heap_other (by omega)).trans (hk3.same _ _ (Nat.le_refl _) hk2 rfl)⟩, (hw2.trans hc3).trans (hput _ _ _ (by omega))⟩
        rw [hrec]
        exact World.putObj_heap_same (Array.getElem?_eq_some_iff.1 hl3).1
      | ret => exact hp.elim
      | exit id => exact hp.elim
      | goto t => exact hp.elim
      | panic ch => exact hp.elim
      | outgrown => exact hp.elim
    · rintro e W2 ⟨⟨v, rfl⟩, hi, hl, hk⟩
      exact ⟨none, _, by have := run_endLoop (P := P) hl (by rw [hrec]; simp); rw [hrec] at this; exact this, hdone _ _ (Nat.le_refl _) (hIp _ _ _ _ _ (by omega) hl rfl hi) ((World.putObj_heap_other (by omega)).trans hk)⟩
end Go.Proofs.YtmjpfoeaobdaeaaGreatDoor
namespace Go.Proofs.YtmjpfoeaobdaeaaGreatDoor

def toB (x : List UInt8) : ByteArray := ⟨x.toArray⟩
theorem toB_data (x : List UInt8) : (toB x).data.toList = x := by simp [toB]
theorem toB_of (s : ByteArray) : toB s.data.toList = s := by cases s; simp [toB]
theorem toB_append (x y : List UInt8) : toB (x ++ y) = toB x ++ toB y := by
  apply ByteArray.ext
  simp [toB, ByteArray.data_append]
theorem bytes_append (s t : ByteArray) : (s ++ t).data.toList = s.data.toList ++ t.data.toList := by simp [ByteArray.data_append]

theorem map_toB : ∀ l : List ByteArray, l.map (toB ∘ fun x => x.data.toList) = l
  | [] => rfl
  | x :: l => by rw [List.map_cons, map_toB l]; rfl
def parts (d : UInt8) : List UInt8 → List (List UInt8)
  | [] => [[]]
  | c :: r => if c = d then [] :: parts d r else (c :: (parts d r).headD []) :: (parts d r).tail
theorem parts_ne (d : UInt8) : ∀ s, parts d s ≠ []
  | [] => by simp [parts]
  | c :: r => by rw [parts]; split <;> simp
theorem parts_sep (d : UInt8) (r : List UInt8) : parts d (d :: r) = [] :: parts d r := by rw [parts, if_pos rfl]
theorem parts_other {d c : UInt8} (h : c ≠ d) {r h' : List UInt8} {t : List (List UInt8)} (e : parts d r = h' :: t) : parts d (c :: r) = (c :: h') :: t := by
  rw [parts, if_neg h, e]; rfl
theorem parts_cut {d : UInt8} : ∀ {a : List UInt8} (r : List UInt8), (∀ x ∈ a, x ≠ d) → parts d (a ++ d :: r) = a :: parts d r
  | [], r, _ => parts_sep d r
  | c :: _a, r, h => parts_other (h c (List.mem_cons_self ..)) (parts_cut r (fun x hx => h x (List.mem_cons_of_mem _ hx)))
theorem parts_none {d : UInt8} : ∀ {a : List UInt8}, (∀ x ∈ a, x ≠ d) → parts d a = [a]
  | [], _ => rfl
  | c :: _a, h => parts_other (h c (List.mem_cons_self ..)) (parts_none (fun x hx => h x (List.mem_cons_of_mem _ hx)))
theorem parts_flat (d : UInt8) : ∀ s, ((parts d s).dropLast.map fun x => x ++ [d]).flatten ++ ((parts d s).getLast?.getD []) = s
  | [] => by simp [parts]
  | c :: r => by
    obtain ⟨h', t, e⟩ := List.exists_cons_of_ne_nil (parts_ne d r)
    have ih := parts_flat d r
    rw [e] at ih
    by_cases h : c = d
    · subst h
      rw [parts_sep, e, List.dropLast_cons_of_ne_nil (by simp), List.getLast?_cons_cons]
      simp only [List.map_cons, List.flatten_cons, List.nil_append, List.cons_append]
      rw [ih]
    · rw [parts_other h e]
      cases t with
      | nil =>
        simp only [List.dropLast_singleton, List.map_nil, List.flatten_nil, List.nil_append, List.getLast?_singleton, Option.getD_some] at ih ⊢
        rw [ih]
      | cons y t =>
        simp only [List.dropLast_cons_of_ne_nil (l := y :: t) (by simp), List.getLast?_cons_cons, List.map_cons, List.flatten_cons, List.cons_append] at ih ⊢
        rw [ih]
theorem split_parts (d : UInt8) : ∀ s, Lib.split s [d] = parts d s
  | [] => by
    have : Lib.index [] [d] = -1 := rfl
    unfold Lib.split
    rw [Lib.count_miss this]; rfl
  | c :: r => by
    have ih := split_parts d r
    by_cases h : c = d
    · subst h
      have e : Lib.index (c :: r) [c] = (0 : Nat) := by rw [Lib.index_one]; simp [Lib.indexByte]
      unfold Lib.split at ih ⊢
      rw [Lib.count_hit (by simp) e, parts_sep, Nat.add_comm, Lib.splitK, if_neg (by rw [e]; decide), e]
      simp only [Int.toNat_natCast, Nat.zero_add, List.take_zero, List.length_cons, List.length_nil, List.drop_succ_cons, List.drop_zero]
      rw [ih]
    · have e : Lib.index (c :: r) [d] = if Lib.index r [d] == -1 then -1 else Lib.index r [d] + 1 := by
        rw [Lib.index_one, Lib.index_one, Lib.indexByte, if_neg (by simpa using h)]
      by_cases hm : Lib.index r [d] = -1
      · have e2 : Lib.index (c :: r) [d] = -1 := by rw [e, hm]; rfl
        unfold Lib.split at ih ⊢
        rw [Lib.count_miss hm] at ih
        rw [Lib.count_miss e2]
        exact (parts_other h ih.symm).symm
      · have hge := Lib.index_ge r [d]
        obtain ⟨i, hi⟩ : ∃ i : Nat, Lib.index r [d] = i := ⟨(Lib.index r [d]).toNat, by omega⟩
        have e2 : Lib.index (c :: r) [d] = ((i + 1 : Nat) : Int) := by
          rw [e, if_neg (by simpa using hm), hi]; rfl
        unfold Lib.split at ih ⊢
        rw [Lib.count_hit (by simp) hi, Nat.add_comm, Lib.splitK, if_neg (by rw [hi]; simp), hi] at ih
        rw [Lib.count_hit (by simp) e2, Nat.add_comm, Lib.splitK, if_neg (by rw [e2]; intro hh; have := eq_of_beq hh; omega), e2]
        simp only [Int.toNat_natCast, List.length_cons, List.length_nil] at ih ⊢
        rw [parts_other h ih.symm]
        rfl
theorem splitB_parts (d : UInt8) (s : ByteArray) : Lib.splitB ⟨#[d]⟩ 0 (Lib.countB s ⟨#[d]⟩) s = (parts d s.data.toList).map toB := by
  have e := Lib.splitB_data ⟨#[d]⟩ 0 (Lib.countB s ⟨#[d]⟩) s
  have e2 : Lib.splitK [d] 0 (Lib.countB s ⟨#[d]⟩) s.data.toList = parts d s.data.toList := split_parts d _
  have e3 : ((Lib.splitB ⟨#[d]⟩ 0 (Lib.countB s ⟨#[d]⟩) s).map (·.data.toList)).map toB = Lib.splitB ⟨#[d]⟩ 0 (Lib.countB s ⟨#[d]⟩) s := by
    rw [List.map_map]
    exact map_toB _
  rw [← e3, e]
  congr 1

def letterB (c : UInt8) : Bool := decide (97 ≤ c.toNat) && decide (c.toNat ≤ 122) || decide (48 ≤ c.toNat) && decide (c.toNat ≤ 57) || decide (c.toNat = 46) || decide (c.toNat = 45)
def nameOk (x : List UInt8) : Bool := !(x == []) && !(x == [46]) && !(x == [46, 46]) && x.all letterB
def pathFault (s : ByteArray) : Int := if 20 < s.size then 3 else if (parts 47 s.data.toList).all nameOk then 0 else 5
end Go.Proofs.YtmjpfoeaobdaeaaGreatDoor
namespace Go.Proofs.YtmjpfoeaobdaeaaGreatDoor

theorem bl_cons (a b : UInt8) (x y : List UInt8) : Op.bytesLess (a :: x) (b :: y) = (decide (a < b) || (a == b && Op.bytesLess x y)) := by rw [Op.bytesLess]
theorem bl_nil_r (x : List UInt8) : Op.bytesLess x [] = false := by cases x <;> rfl
theorem bl_irrefl : ∀ x : List UInt8, Op.bytesLess x x = false
  | [] => rfl
  | a :: x => by rw [bl_cons, bl_irrefl x]; simp
theorem bl_trans : ∀ {x y z : List UInt8}, Op.bytesLess x y = true → Op.bytesLess y z = true → Op.bytesLess x z = true
  | _, [], _, h, _ => by rw [bl_nil_r] at h; cases h
  | _, _ :: _, [], _, h => by rw [bl_nil_r] at h; cases h
  | [], _ :: _, _ :: _, _, _ => rfl
  | a :: x, b :: y, c :: z, h, g => by
    rw [bl_cons] at h g ⊢
    simp only [Bool.or_eq_true, decide_eq_true_eq, Bool.and_eq_true, beq_iff_eq] at h g ⊢
    rcases h with h | ⟨rfl, h⟩
    · rcases g with g | ⟨rfl, g⟩
      · exact .inl (UInt8.lt_trans h g)
      · exact .inl h
    · rcases g with g | ⟨rfl, g⟩
      · exact .inl g
      · exact .inr ⟨rfl, bl_trans h g⟩
theorem bl_tri : ∀ x y : List UInt8, Op.bytesLess x y = true ∨ x = y ∨ Op.bytesLess y x = true
  | [], [] => .inr (.inl rfl)
  | [], _ :: _ => .inl rfl
  | _ :: _, [] => .inr (.inr rfl)
  | a :: x, b :: y => by
    rw [bl_cons, bl_cons]
    simp only [Bool.or_eq_true, decide_eq_true_eq, Bool.and_eq_true, beq_iff_eq, List.cons.injEq]
    rcases Nat.lt_trichotomy a.toNat b.toNat with h | h | h
    · exact .inl (.inl (UInt8.lt_iff_toNat_lt.2 h))
    · have hab : a = b := UInt8.toNat_inj.1 h
      subst hab
      rcases bl_tri x y with h | h | h
      · exact .inl (.inr ⟨rfl, h⟩)
      · exact .inr (.inl ⟨rfl, h⟩)
      · exact .inr (.inr (.inr ⟨rfl, h⟩))
    · exact .inr (.inr (.inl (UInt8.lt_iff_toNat_lt.2 h)))
theorem compare_bl : ∀ x y : List UInt8, (Lib.compareBytes x y < 0 ↔ Op.bytesLess x y = true) ∧ (Lib.compareBytes x y = 0 ↔ x = y)
  | [], [] => by simp [Lib.compareBytes, Op.bytesLess]
  | [], _ :: _ => by simp [Lib.compareBytes, Op.bytesLess]
  | _ :: _, [] => by simp [Lib.compareBytes, Op.bytesLess]
  | a :: x, b :: y => by
    obtain ⟨i1, i2⟩ := compare_bl x y
    rw [bl_cons, Lib.compareBytes]
    by_cases h1 : a < b
    · have : a ≠ b := by rintro rfl; exact absurd h1 (UInt8.lt_irrefl a)
      simp [h1, this]
    · by_cases h2 : b < a
      · have : a ≠ b := by rintro rfl; exact absurd h2 (UInt8.lt_irrefl a)
        simp [h1, h2, this]
      · have hab : a = b := by
          have n1 : ¬ a.toNat < b.toNat := fun h => h1 (UInt8.lt_iff_toNat_lt.2 h)
          have n2 : ¬ b.toNat < a.toNat := fun h => h2 (UInt8.lt_iff_toNat_lt.2 h)
          exact UInt8.toNat_inj.1 (by omega)
        subst hab
        simp [h1, i1, i2]
def less (a b : ByteArray) : Bool := Op.bytesLess a.toList b.toList
theorem toList_inj {a b : ByteArray} (h : a.toList = b.toList) : a = b := by
  rw [Lib.toList_data, Lib.toList_data] at h
  exact ByteArray.ext (Array.toList_inj.1 h)
theorem less_irrefl (a : ByteArray) : less a a = false := bl_irrefl _
theorem less_trans {a b c : ByteArray} (h : less a b = true) (g : less b c = true) : less a c = true := bl_trans h g
theorem less_tri (a b : ByteArray) : less a b = true ∨ a = b ∨ less b a = true := by
  rcases bl_tri a.toList b.toList with h | h | h
  · exact .inl h
  · exact .inr (.inl (toList_inj h))
  · exact .inr (.inr h)
theorem less_asymm {a b : ByteArray} (h : less a b = true) : less b a = false := by
  cases hb : less b a with
  | false => rfl
  | true =>
    have := less_trans h hb
    rw [less_irrefl] at this
    cases this
theorem less_ne {a b : ByteArray} (h : less a b = true) : a ≠ b := by
  rintro rfl
  rw [less_irrefl] at h
  cases h
def leqB (a b : ByteArray) : Bool := Op.bytesLess a.toList b.toList || a.toList == b.toList
theorem leqB_true {a b : ByteArray} : leqB a b = true ↔ less b a = false := by
  unfold leqB
  rw [Bool.or_eq_true, beq_iff_eq]
  constructor
  · rintro (h | h)
    · exact less_asymm h
    · rw [toList_inj h]; exact less_irrefl b
  · intro h
    rcases less_tri a b with g | g | g
    · exact .inl g
    · exact .inr (by rw [g])
    · rw [g] at h; cases h

def fileFault (f : File) : Int := if pathFault f.path = 0 then linesFault f.lines else pathFault f.path
def treeGo : Nat → Option ByteArray → List File → Nat × Int
  | _, _, [] => (0, 0)
  | i, prev, f :: r => if fileFault f ≠ 0 then (i, fileFault f) else if prev.any (fun p => leqB f.path p) = true then (i, 2) else treeGo (i + 1) (some f.path) r
def treeFault (t : List File) : Nat × Int := if 8 < t.length then (0, 3) else treeGo 0 none t
def Sorted (t : List File) : Prop := t.Pairwise fun f g => less f.path g.path = true

theorem treeGo_zero : ∀ (t : List File) (i : Nat) (prev : Option ByteArray), (treeGo i prev t).2 = 0 → (∀ f ∈ t, fileFault f = 0) ∧ Sorted t ∧ (∀ p f, prev = some p → f ∈ t → less p f.path = true) ∧ treeGo i prev t = (0, 0)
  | [], _, _, _ => ⟨by simp, List.Pairwise.nil, by simp, rfl⟩
  | f :: r, i, prev, h => by
    rw [treeGo] at h ⊢
    by_cases h1 : fileFault f ≠ 0
    · rw [if_pos h1] at h; exact absurd h h1
    · rw [if_neg h1] at h ⊢
      by_cases h2 : prev.any (fun p => leqB f.path p) = true
      · rw [if_pos h2] at h; cases h
      · rw [if_neg h2] at h ⊢
        obtain ⟨i1, i2, i3, i4⟩ := treeGo_zero r (i + 1) (some f.path) h
        refine ⟨?_, ?_, ?_, i4⟩
        · intro x hx
          rcases List.mem_cons.1 hx with rfl | hx
          · simpa using h1
          · exact i1 x hx
        · exact List.Pairwise.cons (fun g hg => i3 f.path g rfl hg) i2
        · rintro p x rfl hx
          have hp : less p f.path = true := by
            simp only [Option.any_some] at h2
            rcases less_tri p f.path with g | g | g
            · exact g
            · exact absurd (leqB_true.2 (by rw [g]; exact less_irrefl _)) h2
            · exact absurd (leqB_true.2 (less_asymm g)) h2
          rcases List.mem_cons.1 hx with rfl | hx
          · exact hp
          · exact less_trans hp (i3 f.path x rfl hx)
theorem treeFault_zero {t : List File} (h : (treeFault t).2 = 0) : t.length ≤ 8 ∧ (∀ f ∈ t, fileFault f = 0) ∧ Sorted t ∧ treeFault t = (0, 0) := by
  unfold treeFault at h ⊢
  by_cases h1 : 8 < t.length
  · rw [if_pos h1] at h; cases h
  · rw [if_neg h1] at h ⊢
    obtain ⟨i1, i2, _, i4⟩ := treeGo_zero t 0 none h
    exact ⟨by omega, i1, i2, i4⟩
theorem fileFault_zero {f : File} (h : fileFault f = 0) : pathFault f.path = 0 ∧ linesFault f.lines = 0 := by
  unfold fileFault at h
  by_cases h1 : pathFault f.path = 0
  · rw [if_pos h1] at h; exact ⟨h1, h⟩
  · rw [if_neg h1] at h; exact absurd h h1

def posOf (t : List File) (p : ByteArray) : Nat := (t.takeWhile fun f => less f.path p).length
def isAt (t : List File) (p : ByteArray) : Bool := (t[posOf t p]?).any fun f => decide (f.path = p)
def placeOf (t : List File) (p : ByteArray) : Option Nat := t.findIdx? fun f => decide (f.path = p)
def putAt (t : List File) (f : File) : List File := t.take (posOf t f.path) ++ f :: t.drop (if isAt t f.path = true then posOf t f.path + 1 else posOf t f.path)
def dropAt (t : List File) (k : Nat) : List File := t.take k ++ t.drop (k + 1)
def putLoop (f : File) : Bool → List File → List File
  | done, [] => if done then [] else [f]
  | done, x :: r => (if !done && leqB f.path x.path then [f] else []) ++ (if x.path = f.path then [] else [x]) ++ putLoop f (done || leqB f.path x.path) r

theorem posOf_le (t : List File) (p : ByteArray) : posOf t p ≤ t.length := by
  unfold posOf
  exact (List.takeWhile_prefix _).length_le
theorem pos_unique {t : List File} {p : ByteArray} {i : Nat} (h1 : ∀ q f, q < i → t[q]? = some f → less f.path p = true) (h2 : ∀ f, t[i]? = some f → less f.path p = false) (hi : i ≤ t.length) : posOf t p = i := by
  induction t generalizing i with
  | nil => simp at hi; subst hi; rfl
  | cons x t ih =>
    unfold posOf at ih ⊢
    cases i with
    | zero =>
      have := h2 x rfl
      rw [List.takeWhile_cons, this]; rfl
    | succ i =>
      have := h1 0 x (Nat.succ_pos i) rfl
      rw [List.takeWhile_cons, this]
      simp only [if_true, List.length_cons]
      congr 1
      exact ih (fun q f hq hf => h1 (q + 1) f (by omega) (by simpa using hf)) (fun f hf => h2 f (by simpa using hf)) (by simpa using hi)
theorem sorted_mono {t : List File} (h : Sorted t) {i j : Nat} {f g : File} (hij : i < j) (hi : t[i]? = some f) (hj : t[j]? = some g) : less f.path g.path = true := by
  obtain ⟨hi1, hi2⟩ := List.getElem?_eq_some_iff.1 hi
  obtain ⟨hj1, hj2⟩ := List.getElem?_eq_some_iff.1 hj
  have := List.pairwise_iff_getElem.1 h i j hi1 hj1 hij
  rw [hi2, hj2] at this
  exact this
theorem putLoop_done (f : File) : ∀ t : List File, (∀ x ∈ t, less f.path x.path = true) → putLoop f true t = t
  | [], _ => rfl
  | x :: r, h => by
    have hx := h x (List.mem_cons_self ..)
    rw [putLoop, Bool.true_or, putLoop_done f r (fun y hy => h y (List.mem_cons_of_mem _ hy))]
    simp [(less_ne hx).symm]
theorem putLoop_sorted (f : File) : ∀ t : List File, Sorted t → putLoop f false t = putAt t f
  | [], _ => rfl
  | x :: r, h => by
    obtain ⟨h1, h2⟩ := List.pairwise_cons.1 h
    have ih := putLoop_sorted f r h2
    rcases less_tri x.path f.path with g | g | g
    · have e1 : leqB f.path x.path = false := by
        rw [Bool.eq_false_iff]; intro e
        rw [leqB_true.1 e] at g; cases g
      have e2 : posOf (x :: r) f.path = posOf r f.path + 1 := by unfold posOf; rw [List.takeWhile_cons, g]; rfl
      have e3 : isAt (x :: r) f.path = isAt r f.path := by unfold isAt; rw [e2, List.getElem?_cons_succ]
      rw [putLoop, e1, if_neg (less_ne g)]
      unfold putAt at ih ⊢
      rw [e2, e3, List.take_succ_cons]
      simp only [Bool.not_false, Bool.and_false, Bool.false_eq_true, if_false, List.nil_append, Bool.or_false, List.cons_append, List.cons.injEq, true_and]
      rw [ih]
      by_cases hi : isAt r f.path = true
      · rw [if_pos hi, if_pos hi]; rfl
      · rw [if_neg hi, if_neg hi]; rfl
    · have e1 : leqB f.path x.path = true := leqB_true.2 (by rw [g]; exact less_irrefl _)
      have e2 : posOf (x :: r) f.path = 0 := by unfold posOf; rw [List.takeWhile_cons, g, less_irrefl]; rfl
      have e3 : isAt (x :: r) f.path = true := by unfold isAt; rw [e2]; simp [g]
      rw [putLoop, e1, if_pos g, Bool.false_or, putLoop_done f r (fun y hy => by rw [← g]; exact h1 y hy)]
      unfold putAt
      rw [e2, if_pos e3]
      rfl
    · have e1 : leqB f.path x.path = true := leqB_true.2 (less_asymm g)
      have e2 : posOf (x :: r) f.path = 0 := by unfold posOf; rw [List.takeWhile_cons, less_asymm g]; rfl
      have e3 : isAt (x :: r) f.path = false := by unfold isAt; rw [e2]; simp [(less_ne g).symm]
      rw [putLoop, e1, if_neg (less_ne g).symm, Bool.false_or, putLoop_done f r (fun y hy => less_trans g (h1 y hy))]
      unfold putAt
      have e4 : (if isAt (x :: r) f.path = true then 0 + 1 else 0) = 0 := if_neg (by rw [e3]; decide)
      rw [e2, e4]
      rfl
theorem placeOf_sorted {t : List File} (h : Sorted t) (p : ByteArray) : placeOf t p = if isAt t p = true then some (posOf t p) else none := by
  induction t with
  | nil => rfl
  | cons x r ih =>
    obtain ⟨h1, h2⟩ := List.pairwise_cons.1 h
    have ih := ih h2
    unfold placeOf at ih ⊢
    rw [List.findIdx?_cons]
    rcases less_tri x.path p with g | g | g
    · have e2 : posOf (x :: r) p = posOf r p + 1 := by unfold posOf; rw [List.takeWhile_cons, g]; rfl
      have e3 : isAt (x :: r) p = isAt r p := by unfold isAt; rw [e2, List.getElem?_cons_succ]
      rw [decide_eq_false (less_ne g), e2, e3, ih]
      by_cases hi : isAt r p = true
      · simp [hi]
      · simp [hi]
    · have e2 : posOf (x :: r) p = 0 := by unfold posOf; rw [List.takeWhile_cons, g, less_irrefl]; rfl
      have e3 : isAt (x :: r) p = true := by unfold isAt; rw [e2]; simp [g]
      rw [decide_eq_true g, e2, e3]; rfl
    · have e2 : posOf (x :: r) p = 0 := by unfold posOf; rw [List.takeWhile_cons, less_asymm g]; rfl
      have e3 : isAt (x :: r) p = false := by unfold isAt; rw [e2]; simp [(less_ne g).symm]
      have hr : isAt r p = false := by
        unfold isAt
        cases hf : r[posOf r p]? with
        | none => rfl
        | some y => simp [(less_ne (less_trans g (h1 y (List.mem_of_getElem? hf)))).symm]
      rw [decide_eq_false (less_ne g).symm, e3, ih, hr]; rfl
end Go.Proofs.YtmjpfoeaobdaeaaGreatDoor
namespace Go.Proofs.YtmjpfoeaobdaeaaGreatDoor

def look (t : List File) (p : ByteArray) : Option (List ByteArray) := (t.find? fun f => decide (f.path = p)).map (·.lines)
theorem look_nil (p : ByteArray) : look [] p = none := rfl
theorem look_cons (x : File) (r : List File) (p : ByteArray) : look (x :: r) p = if x.path = p then some x.lines else look r p := by
  unfold look
  by_cases h : x.path = p
  · rw [List.find?_cons_of_pos (by simpa using h), if_pos h]; rfl
  · rw [List.find?_cons_of_neg (by simpa using h), if_neg h]
theorem look_none : ∀ {A : List File} {p : ByteArray}, (∀ x ∈ A, x.path ≠ p) → look A p = none
  | [], _, _ => rfl
  | x :: r, p, h => by rw [look_cons, if_neg (h x (List.mem_cons_self ..)), look_none fun y hy => h y (List.mem_cons_of_mem _ hy)]
theorem look_app : ∀ (A B : List File) (p : ByteArray), look (A ++ B) p = (look A p).or (look B p)
  | [], B, p => by simp [look_nil]
  | x :: A, B, p => by
    rw [List.cons_append, look_cons, look_cons, look_app A B p]
    by_cases h : x.path = p
    · rw [if_pos h, if_pos h]; rfl
    · rw [if_neg h, if_neg h]
theorem look_some : ∀ {A : List File} {p : ByteArray} {l : List ByteArray}, look A p = some l → ∃ x ∈ A, x.path = p ∧ x.lines = l
  | [], _, _, h => by cases h
  | x :: r, p, l, h => by
    rw [look_cons] at h
    by_cases e : x.path = p
    · rw [if_pos e] at h
      exact ⟨x, List.mem_cons_self .., e, Option.some.inj h⟩
    · rw [if_neg e] at h
      obtain ⟨y, hy, h2⟩ := look_some h
      exact ⟨y, List.mem_cons_of_mem _ hy, h2⟩
theorem look_mem {t : List File} (hs : Sorted t) {x : File} (h : x ∈ t) : look t x.path = some x.lines := by
  induction t with
  | nil => cases h
  | cons y r ih =>
    obtain ⟨h1, h2⟩ := List.pairwise_cons.1 hs
    rw [look_cons]
    rcases List.mem_cons.1 h with rfl | h
    · rw [if_pos rfl]
    · rw [if_neg (less_ne (h1 x h)), ih h2 h]

theorem tree_split {t : List File} (hs : Sorted t) (p : ByteArray) : ∃ A C : List File, (∀ x ∈ A, less x.path p = true) ∧ (∀ x ∈ C, less p x.path = true) ∧ Sorted A ∧ Sorted C ∧ posOf t p = A.length ∧
    ((isAt t p = true ∧ ∃ g, g.path = p ∧ t = A ++ g :: C) ∨ (isAt t p = false ∧ t = A ++ C)) := by
  induction t with
  | nil => exact ⟨[], [], by simp, by simp, List.Pairwise.nil, List.Pairwise.nil, rfl, .inr ⟨rfl, rfl⟩⟩
  | cons x r ih =>
    obtain ⟨h1, h2⟩ := List.pairwise_cons.1 hs
    rcases less_tri x.path p with g | g | g
    · obtain ⟨A, C, a1, a2, a3, a4, a5, a6⟩ := ih h2
      have e2 : posOf (x :: r) p = posOf r p + 1 := by unfold posOf; rw [List.takeWhile_cons, g]; rfl
      have e3 : isAt (x :: r) p = isAt r p := by unfold isAt; rw [e2, List.getElem?_cons_succ]
      have hA : Sorted (x :: A) := by
        refine List.Pairwise.cons (fun y hy => h1 y ?_) a3
        rcases a6 with ⟨_, w, _, rfl⟩ | ⟨_, rfl⟩
        · exact List.mem_append_left _ hy
        · exact List.mem_append_left _ hy
      refine ⟨x :: A, C, ?_, a2, hA, a4, by rw [e2, a5]; rfl, ?_⟩
      · intro y hy
        rcases List.mem_cons.1 hy with rfl | hy
        · exact g
        · exact a1 y hy
      · rw [e3]
        rcases a6 with ⟨b1, w, b2, b3⟩ | ⟨b1, b2⟩
        · exact .inl ⟨b1, w, b2, by rw [b3]; rfl⟩
        · exact .inr ⟨b1, by rw [b2]; rfl⟩
    · have e2 : posOf (x :: r) p = 0 := by unfold posOf; rw [List.takeWhile_cons, g, less_irrefl]; rfl
      exact ⟨[], r, by simp, fun y hy => by rw [← g]; exact h1 y hy, List.Pairwise.nil, h2, e2, .inl ⟨by unfold isAt; rw [e2]; simp [g], x, g, rfl⟩⟩
    · have e2 : posOf (x :: r) p = 0 := by unfold posOf; rw [List.takeWhile_cons, less_asymm g]; rfl
      refine ⟨[], x :: r, by simp, fun y hy => ?_, List.Pairwise.nil, hs, e2, .inr ⟨by unfold isAt; rw [e2]; simp [(less_ne g).symm], rfl⟩⟩
      rcases List.mem_cons.1 hy with rfl | hy
      · exact g
      · exact less_trans g (h1 y hy)
theorem sorted_join {A C : List File} {f : File} (a1 : ∀ x ∈ A, less x.path f.path = true) (a2 : ∀ x ∈ C, less f.path x.path = true) (a3 : Sorted A) (a4 : Sorted C) : Sorted (A ++ f :: C) := by
  refine List.pairwise_append.2 ⟨a3, List.Pairwise.cons a2 a4, fun x hx y hy => ?_⟩
  rcases List.mem_cons.1 hy with rfl | hy
  · exact a1 x hx
  · exact less_trans (a1 x hx) (a2 y hy)
theorem sorted_pair {A C : List File} {p : ByteArray} (a1 : ∀ x ∈ A, less x.path p = true) (a2 : ∀ x ∈ C, less p x.path = true) (a3 : Sorted A) (a4 : Sorted C) : Sorted (A ++ C) :=
  List.pairwise_append.2 ⟨a3, a4, fun x hx y hy => less_trans (a1 x hx) (a2 y hy)⟩
theorem isAt_look {t : List File} (hs : Sorted t) (p : ByteArray) : isAt t p = (look t p).isSome := by
  obtain ⟨A, C, a1, a2, _, _, _, a6⟩ := tree_split hs p
  rcases a6 with ⟨b1, w, b2, rfl⟩ | ⟨b1, rfl⟩
  · rw [b1, look_app, look_none fun x hx => less_ne (a1 x hx), look_cons, if_pos b2]; rfl
  · rw [b1, look_app, look_none fun x hx => less_ne (a1 x hx), look_none fun x hx => (less_ne (a2 x hx)).symm]; rfl
theorem posOf_look {t : List File} (hs : Sorted t) (p : ByteArray) : ((t[posOf t p]?).map (·.lines)).getD [] = (look t p).getD [] ∨ isAt t p = false := by
  obtain ⟨A, C, a1, a2, _, _, a5, a6⟩ := tree_split hs p
  rcases a6 with ⟨b1, w, b2, rfl⟩ | ⟨b1, _⟩
  · rw [a5, look_app, look_none fun x hx => less_ne (a1 x hx), look_cons, if_pos b2]
    exact .inl (by simp)
  · exact .inr b1
theorem putAt_is {t : List File} (hs : Sorted t) (f : File) : ∃ A C : List File, (∀ x ∈ A, less x.path f.path = true) ∧ (∀ x ∈ C, less f.path x.path = true) ∧ Sorted A ∧ Sorted C ∧ putAt t f = A ++ f :: C ∧
    ((isAt t f.path = true ∧ ∃ g, g.path = f.path ∧ t = A ++ g :: C) ∨ (isAt t f.path = false ∧ t = A ++ C)) := by
  obtain ⟨A, C, a1, a2, a3, a4, a5, a6⟩ := tree_split hs f.path
  refine ⟨A, C, a1, a2, a3, a4, ?_, a6⟩
  unfold putAt
  rcases a6 with ⟨b1, w, b2, rfl⟩ | ⟨b1, rfl⟩
  · rw [if_pos b1, a5, List.take_left' rfl, List.drop_append, List.drop_eq_nil_of_le (by omega)]
    simp
  · rw [if_neg (by rw [b1]; decide), a5, List.take_left' rfl, List.drop_left' rfl]
theorem putAt_sorted {t : List File} (hs : Sorted t) (f : File) : Sorted (putAt t f) := by
  obtain ⟨A, C, a1, a2, a3, a4, a5, _⟩ := putAt_is hs f
  rw [a5]
  exact sorted_join a1 a2 a3 a4
theorem putAt_look {t : List File} (hs : Sorted t) (f : File) (p : ByteArray) : look (putAt t f) p = if f.path = p then some f.lines else look t p := by
  obtain ⟨A, C, a1, a2, a3, a4, a5, a6⟩ := putAt_is hs f
  rw [a5, look_app, look_cons]
  by_cases e : f.path = p
  · rw [if_pos e, if_pos e, look_none fun x hx => by rw [← e]; exact less_ne (a1 x hx)]; rfl
  · rw [if_neg e, if_neg e]
    rcases a6 with ⟨b1, w, b2, rfl⟩ | ⟨b1, rfl⟩
    · rw [look_app, look_cons, if_neg (by rw [b2]; exact e)]
    · rw [look_app]
theorem putAt_len {t : List File} (hs : Sorted t) (f : File) : (putAt t f).length = if isAt t f.path = true then t.length else t.length + 1 := by
  obtain ⟨A, C, a1, a2, a3, a4, a5, a6⟩ := putAt_is hs f
  rw [a5]
  rcases a6 with ⟨b1, w, b2, rfl⟩ | ⟨b1, rfl⟩
  · rw [if_pos b1]; simp
  · rw [if_neg (by rw [b1]; decide)]; simp; omega
theorem putAt_mem {t : List File} {f x : File} (h : x ∈ putAt t f) : x = f ∨ x ∈ t := by
  unfold putAt at h
  rcases List.mem_append.1 h with h | h
  · exact .inr (List.mem_of_mem_take h)
  · rcases List.mem_cons.1 h with h | h
    · exact .inl h
    · exact .inr (List.mem_of_mem_drop h)
theorem dropAt_isp {t : List File} (hs : Sorted t) {p : ByteArray} (h : isAt t p = true) : ∃ A C : List File, (∀ x ∈ A, less x.path p = true) ∧ (∀ x ∈ C, less p x.path = true) ∧ Sorted A ∧ Sorted C ∧ dropAt t (posOf t p) = A ++ C ∧ ∃ g, g.path = p ∧ t = A ++ g :: C := by
  obtain ⟨A, C, a1, a2, a3, a4, a5, a6⟩ := tree_split hs p
  rcases a6 with ⟨b1, w, b2, rfl⟩ | ⟨b1, rfl⟩
  · refine ⟨A, C, a1, a2, a3, a4, ?_, w, b2, rfl⟩
    unfold dropAt
    rw [a5, List.take_left' rfl, List.drop_append, List.drop_eq_nil_of_le (by omega)]
    simp
  · rw [b1] at h; cases h
theorem dropAt_sorted {t : List File} (hs : Sorted t) {p : ByteArray} (h : isAt t p = true) : Sorted (dropAt t (posOf t p)) := by
  obtain ⟨A, C, a1, a2, a3, a4, a5, _⟩ := dropAt_isp hs h
  rw [a5]
  exact sorted_pair a1 a2 a3 a4
theorem dropAt_look {t : List File} (hs : Sorted t) {p : ByteArray} (h : isAt t p = true) (q : ByteArray) : look (dropAt t (posOf t p)) q = if p = q then none else look t q := by
  obtain ⟨A, C, a1, a2, a3, a4, a5, g, b1, b2⟩ := dropAt_isp hs h
  rw [a5, look_app]
  by_cases e : p = q
  · subst e
    rw [if_pos rfl, look_none fun x hx => less_ne (a1 x hx), look_none fun x hx => (less_ne (a2 x hx)).symm]; rfl
  · rw [if_neg e, b2, look_app, look_cons, if_neg (by rw [b1]; exact e)]
theorem dropAt_len {t : List File} (hs : Sorted t) {p : ByteArray} (h : isAt t p = true) : (dropAt t (posOf t p)).length + 1 = t.length := by
  obtain ⟨A, C, a1, a2, a3, a4, a5, g, b1, b2⟩ := dropAt_isp hs h
  rw [a5, b2]; simp; omega
theorem dropAt_mem {t : List File} {k : Nat} {x : File} (h : x ∈ dropAt t k) : x ∈ t := by
  unfold dropAt at h
  rcases List.mem_append.1 h with h | h
  · exact List.mem_of_mem_take h
  · exact List.mem_of_mem_drop h
theorem sorted_ext : ∀ {t u : List File}, Sorted t → Sorted u → (∀ p, look t p = look u p) → t = u
  | [], [], _, _, _ => rfl
  | [], y :: s, _, _, h => by have := h y.path; rw [look_nil, look_cons, if_pos rfl] at this; cases this
  | x :: r, [], _, _, h => by have := h x.path; rw [look_nil, look_cons, if_pos rfl] at this; cases this
  | x :: r, y :: s, hs, hu, h => by
    obtain ⟨h1, h2⟩ := List.pairwise_cons.1 hs
    obtain ⟨g1, g2⟩ := List.pairwise_cons.1 hu
    have hx := h x.path
    rw [look_cons, if_pos rfl, look_cons] at hx
    have hy := h y.path
    rw [look_cons y s, if_pos rfl, look_cons] at hy
    have key : x.path = y.path := by
      rcases less_tri x.path y.path with g | g | g
      · rw [if_neg (less_ne g).symm, look_none fun z hz => (less_ne (less_trans g (g1 z hz))).symm] at hx
        cases hx
      · exact g
      · rw [if_neg (less_ne g).symm, look_none fun z hz => (less_ne (less_trans g (h1 z hz))).symm] at hy
        cases hy
    rw [if_pos key.symm] at hx
    have e : x = y := by
      cases x; cases y
      simp only at key hx
      simp [key, Option.some.inj hx]
    subst e
    congr 1
    refine sorted_ext h2 g2 fun p => ?_
    have := h p
    rw [look_cons, look_cons] at this
    by_cases e : x.path = p
    · rw [look_none fun z hz => by rw [← e]; exact (less_ne (h1 z hz)).symm, look_none fun z hz => by rw [← e]; exact (less_ne (g1 z hz)).symm]
    · rw [if_neg e, if_neg e] at this
      exact this

theorem treeGo_ok : ∀ (t : List File) (i : Nat) (prev : Option ByteArray), (∀ f ∈ t, fileFault f = 0) → Sorted t → (∀ p f, prev = some p → f ∈ t → less p f.path = true) → treeGo i prev t = (0, 0)
  | [], _, _, _, _, _ => rfl
  | f :: r, i, prev, h1, h2, h3 => by
    obtain ⟨g1, g2⟩ := List.pairwise_cons.1 h2
    have hp : ¬ prev.any (fun p => leqB f.path p) = true := by
      cases prev with
      | none => simp
      | some p =>
        simp only [Option.any_some]
        intro e
        have := leqB_true.1 e
        rw [h3 p f rfl (List.mem_cons_self ..)] at this
        cases this
    rw [treeGo, if_neg (by rw [h1 f (List.mem_cons_self ..)]; simp), if_neg hp]
    exact treeGo_ok r (i + 1) (some f.path) (fun x hx => h1 x (List.mem_cons_of_mem _ hx)) g2 (fun p x hp hx => by cases hp; exact g1 x hx)
theorem treeFault_ok {t : List File} (h0 : t.length ≤ 8) (h1 : ∀ f ∈ t, fileFault f = 0) (h2 : Sorted t) : treeFault t = (0, 0) := by
  unfold treeFault
  rw [if_neg (by omega)]
  exact treeGo_ok t 0 none h1 h2 (by simp)
def Tree (t : List File) : Prop := t.length ≤ 8 ∧ (∀ f ∈ t, fileFault f = 0) ∧ Sorted t
theorem tree_iff {t : List File} : Tree t ↔ (treeFault t).2 = 0 :=
  ⟨fun h => by rw [treeFault_ok h.1 h.2.1 h.2.2], fun h => by obtain ⟨a, b, c, _⟩ := treeFault_zero h; exact ⟨a, b, c⟩⟩
end Go.Proofs.YtmjpfoeaobdaeaaGreatDoor
namespace Go.Proofs.YtmjpfoeaobdaeaaGreatDoor
open Go.RowKit

theorem tk {P : Program} {md : Region.Mode} {ops : Array Oper} {Q : Exit → Act → World → Prop} {S : World → Prop} (i : Nat) {oi : Oper} {v : Value} {fuel : Nat} {listed l : Array Bool} {a b : Act} {w : World}
    (h : wpAnyH P md ops Q S fuel l b w)
    (hi : ops[i]? = some oi := by ((try simp only [List.getElem?_toArray, List.getElem?_cons_succ, List.getElem?_cons_zero]); rfl))
    (hs : Region.noSelect ops = true := by kernel_rfl) (hf : Region.free md ops listed i = true := by kernel_rfl) (hr : (Region.ready md ops listed).contains i = true := by kernel_rfl)
    (hQ : ∀ c a w, Q (.panic c) (a.put oi.dst v) w → Q (.panic c) a w := by exact fun _ _ _ h => h)
    (hw : Region.wanted oi (yielded ops a.tmps) = true := by rfl)
    (hy : ∀ w, S w → (execOp a.eval oi).run P w = .ok (.value v) w := by (intro w' hSw; (try dsimp only at hSw); go_simp; all_goals with_reducible rfl))
    (hS : S w := by assumption)
    (hl : listed.setIfInBounds i true = l := by ((try simp only [List.setIfInBounds_toArray, List.set_cons_zero, List.set_cons_succ]); (try rfl)))
    (hb : a.put oi.dst v = b := by ((try simp only [Act.put, List.setIfInBounds_toArray, List.set_cons_zero, List.set_cons_succ]); (try rfl))) :
    wpAnyH P md ops Q S (fuel + 1) listed a w := by
  subst hl hb
  exact wpAnyH_take hi hs hf hr hQ (Or.inl ⟨hw, hy⟩) hS h
theorem sk {P : Program} {md : Region.Mode} {ops : Array Oper} {Q : Exit → Act → World → Prop} {S : World → Prop} (i : Nat) {oi : Oper} {fuel : Nat} {listed l : Array Bool} {a b : Act} {w : World}
    (h : wpAnyH P md ops Q S fuel l b w)
    (hi : ops[i]? = some oi := by ((try simp only [List.getElem?_toArray, List.getElem?_cons_succ, List.getElem?_cons_zero]); rfl))
    (hs : Region.noSelect ops = true := by kernel_rfl) (hf : Region.free md ops listed i = true := by kernel_rfl) (hr : (Region.ready md ops listed).contains i = true := by kernel_rfl)
    (hQ : ∀ c a w, Q (.panic c) (a.put oi.dst undef) w → Q (.panic c) a w := by exact fun _ _ _ h => h)
    (hw : Region.wanted oi (yielded ops a.tmps) = false := by rfl)
    (hS : S w := by assumption)
    (hl : listed.setIfInBounds i true = l := by ((try simp only [List.setIfInBounds_toArray, List.set_cons_zero, List.set_cons_succ]); (try rfl)))
    (hb : a.put oi.dst undef = b := by ((try simp only [Act.put, List.setIfInBounds_toArray, List.set_cons_zero, List.set_cons_succ]); (try rfl))) :
    wpAnyH P md ops Q S (fuel + 1) listed a w := by
  subst hl hb
  exact wpAnyH_take hi hs hf hr hQ (Or.inr ⟨hw, rfl⟩) hS h
end Go.Proofs.YtmjpfoeaobdaeaaGreatDoor
namespace Go.Proofs.YtmjpfoeaobdaeaaGreatDoor
open Go.RowKit

abbrev IsB : Nat → Nat → List Value → World → Prop := Lib.IsBuilderF 37 5
abbrev BAt (B b : Nat) (bs : List Value) (w : World) : Prop := Lib.BuilderAtF 37 5 B b (.pointer (some ⟨b, 0, none⟩)) bs w
theorem bld_info : (Tryz.prog.info? 37).map (·.size) = some 2 := by kernel_rfl
theorem bld_lies : liesAt Tryz.prog Tryz.prog.depth 37 (2 / Tryz.prog.cellsOf 37) 0 37 1 = true := by kernel_rfl
theorem bld_byte : (Tryz.prog.info? 5).map (fun i => (i.zero, i.size, i.bytes)) = some (some (.int .u8 0), 1, 1) := by kernel_rfl

end Go.Proofs.YtmjpfoeaobdaeaaGreatDoor
namespace Go.Proofs.YtmjpfoeaobdaeaaGreatDoor
open Go.RowKit

theorem own_block_lt {α : Type} [Dat α] {e : TypeId} {w : World} {O : Nat → Prop} {v : Value} {l : List α} (h : Own e w O v l) : ∀ k, v.ownBlock = some k → k < w.heap.size := by
  obtain ⟨xs, h1, _⟩ := h
  exact fun k hk => (h1.lt k hk).2

theorem Own.keep {α : Type} [Dat α] {e : TypeId} {w w' : World} {O O' O'' : Nat → Prop} {v : Value} {l : List α} (h : Own e w O v l) (hc : Chg O' w w')
    (h1 : ∀ k, k < w.heap.size → O' k → O k) (h2 : ∀ k, k < w.heap.size → O'' k → O k) : Own e w' O'' v l := by
  obtain ⟨xs, hx, hb, hel⟩ := h
  have hlt := fun k hk => (hx.lt k hk).2
  refine ⟨xs, ?_, fun k hk ho => hb k hk (h2 k (hlt k hk) ho), ?_⟩
  · refine ⟨hx.1, ?_⟩
    rcases hx.2 with h | ⟨g, cap, cur, rfl, hg, hh, r⟩
    · exact .inl h
    · refine .inr ⟨g, cap, cur, rfl, hg, ?_, r⟩
      rw [hc.block g (hlt g rfl) (fun ho => hb g rfl (h1 g (hlt g rfl) ho))]
      exact hh
  · intro i x hi
    refine Dat.keep (hel i x hi) hc (fun k hk ho => .inl (h1 k hk ho)) ?_
    rintro k hk (ho | ho)
    · exact .inl (h2 k hk ho)
    · exact .inr ho
theorem Own.never {α : Type} [Dat α] {e : TypeId} {w w' : World} {O : Nat → Prop} {v : Value} {l : List α} (h : Own e w O v l) (hc : Chg Never w w') : Own e w' O v l :=
  h.keep hc (fun _ _ h => h.elim) (fun _ _ h => h)

theorem Own.rdv {α : Type} [Dat α] {e : TypeId} {w : World} {O : Nat → Prop} {v : Value} {l : List α} (h : Own e w O v l) : Rdv w O v l := by
  obtain ⟨xs, hx, hb, hel⟩ := h
  have hlen := hx.1
  rcases hx.2 with ⟨rfl, h0⟩ | ⟨g, cap, cur, rfl, hg, hh, hn, hm, hcs, htake⟩
  · have : l = [] := List.eq_nil_of_length_eq_zero h0
    subst this
    exact rdv_nil _ _
  · refine ⟨some ⟨g, 0, none⟩, cap, rfl, hn, hm, ?_⟩
    intro i x hi
    have hil := (List.getElem?_eq_some_iff.1 hi).1
    have hel' := hel i x hi
    have hel2 : Dat.rd w O _ x := Dat.keep hel' (Chg.refl Never w) (fun _ _ h => h.elim) (fun k _ ho => .inl ho)
    refine ⟨g, 0, _, rfl, hb g rfl, ?_, hel2⟩
    intro j u hj
    have hcell := World.ownsRow.cells hx (g := g) rfl (i * Dat.n α + j) u ?_
    · rw [← hcell]
      unfold Addr.add
      split <;> simp_all
    · rw [List.getElem?_take] at hj
      split at hj
      · rw [List.getElem?_drop] at hj; exact hj
      · cases hj

theorem append_block {P : Program} (w : World) (base : Nat) (t ty e : TypeId) (i : TypeInfo) (z : Value) (size bytes : Nat) (ht : P.underlying t = some (.slice e)) (hi : P.info? e = some i) (hz : i.zero = some z)
    (hsize : i.size = size) (hby : i.bytes = bytes)
    (v : Value) (n : Nat) (xs : List Value) (hown : w.ownsRow base e size v n xs)
    (a : Addr) (m c : Nat) (news : List Value) (hl : news.length = m * size) (hnews : ∀ j u, news[j]? = some u → w.cell? (a.add j) = some u) (h1 : ∀ u ∈ news, u.oneCell' = true)
    (h63 : n + m ≤ maxLen) (hbytes : (n + m) * bytes ≤ 140737488355328) (hm : m ≠ 0) {v' : Value} {w' : World} (hrun : (Builtin.append_ #[t, t] ty #[v, .slice (some a) m c]).run P w = .ok v' w') :
    ∃ k, v'.ownBlock = some k ∧ (v.ownBlock = some k ∨ k = w.heap.size) := by
  subst hsize
  subst hby
  have hsmall : n + m ≤ 9223372036854775807 := by simp only [maxLen] at h63; omega
  rcases hown.2 with ⟨rfl, rfl⟩ | ⟨g, cap, cur, rfl, hbg, hg, hnc, hcm, hcs, htake⟩
  · have hr := run_append_nil (P := P) w t ty e i z ht hi hz a m c news hl hnews (by omega) (by omega) (by have hb := hbytes; simp only [Nat.zero_add] at hb; omega)
    rw [hr] at hrun
    injection hrun with hv _
    subst hv
    exact ⟨_, rfl, .inr rfl⟩
  · by_cases hroom : n + m ≤ cap
    · have hfit : n * i.size + news.length ≤ cur.size := by rw [hl, hcs, ← Nat.add_mul]; exact Nat.mul_le_mul_right _ hroom
      have hr := run_append_room (P := P) w t ty e i ht hi g n cap cur hg a m c news hl hnews h1 hroom hfit
      rw [hr] at hrun
      injection hrun with hv _
      subst hv
      exact ⟨_, rfl, .inl rfl⟩
    · have holds : ∀ j u, xs[j]? = some u → w.cell? ((⟨g, 0, none⟩ : Addr).add j) = some u := hown.cells (g := g) rfl
      have hr := run_append_grow (P := P) w t ty e i z ht hi hz ⟨g, 0, none⟩ n cap xs hown.1 holds a m c news hl hnews (by omega) (by omega) (growslice_fits (by omega) hbytes)
      rw [hr] at hrun
      injection hrun with hv _
      subst hv
      exact ⟨_, rfl, .inr rfl⟩

structure ElemOk (P : Program) (t e : TypeId) (n : Nat) : Prop where
  ht : P.underlying t = some (.slice e)
  info : ∃ i z, P.info? e = some i ∧ i.zero = some z ∧ i.size = n ∧ z.cells.size = n ∧ i.bytes ≤ 128

theorem run_push {P : Program} {α : Type} [Dat α] {t ty e : TypeId} (hP : ElemOk P t e (Dat.n α)) {w0 : World} {O : Nat → Prop} {v : Value} {l : List α} {y : α} {es : List Value} (E' : TypeId)
    (hown : Own e w0 O v l) (hy : Dat.rd w0 (fun k => O k ∨ v.ownBlock = some k) es y) (hO : ∀ k, O k → k < w0.heap.size) (hlen : l.length ≤ 1000000000) :
    ∃ v' w', (Builtin.append_ #[t, t] ty #[v, .slice (some ⟨w0.heap.size, 0, none⟩) 1 1]).run P (w0.alloc (.cells es.toArray E')) = .ok v' w' ∧ Own e w' O v' (l ++ [y]) ∧ Chg (OwnB v) w0 w' ∧ (∃ k, v'.ownBlock = some k ∧ (v.ownBlock = some k ∨ w0.heap.size ≤ k)) := by
  obtain ⟨i, z, hi, hz, hsz, hzs, hby⟩ := hP.info
  have hlt := own_block_lt hown
  obtain ⟨xs, hx, hb, hel⟩ := id hown
  have hnl : es.length = 1 * Dat.n α := by rw [Dat.len hy]; omega
  have hpos := Dat.pos (α := α)
  have hcells : ∀ j u, es[j]? = some u → (w0.alloc (.cells es.toArray E')).cell? ((⟨w0.heap.size, 0, none⟩ : Addr).add j) = some u := by
    intro j u hj
    have e1 : (⟨w0.heap.size, 0, none⟩ : Addr).add j = ⟨w0.heap.size, j, none⟩ := by unfold Addr.add; split <;> simp_all
    rw [e1, World.cell?, heap_alloc_new]
    simpa using hj
  have hx' := hx.alloc (.cells es.toArray E')
  have hbound : (l.length + 1) * i.bytes ≤ 140737488355328 := by
    have := Nat.mul_le_mul (show l.length + 1 ≤ 1000000001 by omega) hby
    omega
  obtain ⟨v', w', hrun, hown', hgrow, hnil⟩ := run_append_own (P := P) (w0.alloc (.cells es.toArray E')) 0 t ty e i z (Dat.n α) i.bytes hP.ht hi hz hsz rfl hzs hpos v l.length xs hx'
    ⟨w0.heap.size, 0, none⟩ 1 1 es hnl hcells (Dat.one hy) (by unfold maxLen; omega) hbound (Nat.zero_le _)
  obtain ⟨kb, hkb, hkb'⟩ := append_block (P := P) (w0.alloc (.cells es.toArray E')) 0 t ty e i z (Dat.n α) i.bytes hP.ht hi hz hsz rfl v l.length xs hx'
    ⟨w0.heap.size, 0, none⟩ 1 1 es hnl hcells (Dat.one hy) (by unfold maxLen; omega) hbound (by omega) hrun
  have hkb2 : v.ownBlock = some kb ∨ w0.heap.size ≤ kb := by
    rcases hkb' with h | h
    · exact .inl h
    · right; rw [h]; simp
  have hc : Chg (OwnB v) w0 w' := ((Chg.refl (OwnB v) w0).alloc _).trans' (Chg.of_grown hgrow) (fun k _ hk => hk)
  refine ⟨v', w', hrun, ⟨xs ++ es, ?_, ?_, ?_⟩, hc, kb, hkb, hkb2⟩
  · simpa using hown'
  · intro k hk ho
    rw [hkb] at hk
    injection hk with hk
    subst hk
    rcases hkb2 with h | h
    · exact hb _ h ho
    · exact absurd (hO _ ho) (by omega)
  · have hsub : ∀ k, k < w0.heap.size → (O k ∨ v'.ownBlock = some k) → (O k ∨ v.ownBlock = some k) := by
      rintro k hk (h | h)
      · exact .inl h
      · rw [hkb] at h
        injection h with h
        subst h
        rcases hkb2 with h | h
        · exact .inr h
        · omega
    intro j x hj
    have hxl := hx.1
    rcases Nat.lt_or_ge j l.length with hjl | hjl
    · rw [List.getElem?_append_left hjl] at hj
      have h := Dat.keep (hel j x hj) hc (fun k _ hk => .inr hk) hsub
      have hle : j * Dat.n α + Dat.n α ≤ xs.length := by rw [hxl, ← Nat.succ_mul]; exact Nat.mul_le_mul_right _ hjl
      rw [List.drop_append_of_le_length (by omega), List.take_append_of_le_length (by rw [List.length_drop]; omega)]
      exact h
    · have e : j = l.length := by
        have := (List.getElem?_eq_some_iff.1 hj).1
        simp at this
        omega
      subst e
      simp at hj
      subst hj
      rw [← hxl, List.drop_left, List.take_of_length_le (by omega)]
      exact Dat.keep hy hc (fun k _ hk => .inr hk) hsub

theorem wpList_push {P : Program} {ops : Array Oper} {rest : List Oper} {o : Oper} {a : Act} {Q : Exit → Act → World → Prop} (hgd : o.guard = none) (s x : Operand) (t : TypeId)
    (ho : o.op = .call { callee := .builtin .append, args := #[s, x], argTypes := #[t, t] }) {α : Type} [Dat α] {e : TypeId} (hP : ElemOk P t e (Dat.n α)) {w0 : World} {O : Nat → Prop} {v : Value} {l : List α} {y : α} {es : List Value} {E' : TypeId} {B : Nat}
    (hs : a.eval s = v) (hx : a.eval x = .slice (some ⟨B, 0, none⟩) 1 1) (hB : B = w0.heap.size)
    (hown : Own e w0 O v l) (hy : Dat.rd w0 (fun k => O k ∨ v.ownBlock = some k) es y) (hO : ∀ k, O k → k < w0.heap.size) (hlen : l.length ≤ 1000000000)
    (h : ∀ v' w', Own e w' O v' (l ++ [y]) → Chg (OwnB v) w0 w' → (∃ k, v'.ownBlock = some k ∧ (v.ownBlock = some k ∨ w0.heap.size ≤ k)) → wpList P ops Q rest (a.put o.dst v') w') :
    wpList P ops Q (o :: rest) a (w0.alloc (.cells es.toArray E')) := by
  subst hB
  refine wpList_plain hgd fun K hK => ?_
  obtain ⟨v', w', hrun, h1, h2, h3⟩ := run_push (ty := o.type) hP E' hown hy hO hlen
  unfold Oper.wp execOp
  simp only [ho, resolve, invoke, builtin, Sem.run_bind, Sem.run_pure, Result.andThen_ok, List.map_toArray, List.map_cons, List.map_nil, hs, hx, hrun]
  exact hK _ _ (h v' w' h1 h2 h3)

theorem elemOk_of {P : Program} {t e : TypeId} {n b : Nat} {z : Value} (ht : P.underlying t = some (.slice e)) (h : (P.info? e).map (fun i => (i.zero, i.size, i.bytes)) = some (some z, n, b)) (hz : z.cells.size = n) (hb : b ≤ 128) : ElemOk P t e n := by
  obtain ⟨i, h1, h2, h3, h4⟩ := info_parts h
  exact ⟨ht, i, z, h1, h2, h3, hz, by omega⟩

theorem own_step {α : Type} [Dat α] {e : TypeId} {w wr w' : World} {v : Value} {l : List α} (hc : Chg Never w wr) (hown : Own e wr (Old w.heap.size) v l) (hc' : Chg (OwnB v) wr w') : Chg Never w w' := by
  refine hc.trans' hc' ?_
  intro i hi ho
  obtain ⟨xs, _, hb, _⟩ := hown
  exact (hb i ho hi).elim
theorem old_lt {w wr : World} (hc : Chg Never w wr) : ∀ k, Old w.heap.size k → k < wr.heap.size := fun _ hk => Nat.lt_of_lt_of_le hk hc.size
end Go.Proofs.YtmjpfoeaobdaeaaGreatDoor
namespace Go.Proofs.YtmjpfoeaobdaeaaGreatDoor
open Go.RowKit

theorem byte_at {s : ByteArray} {k : Nat} (h : k < s.size) : s.data.toList[k]? = some (s[k]'h) := by
  rw [Array.getElem?_toList, Array.getElem?_eq_getElem h]; rfl
theorem byte_eq {c d : UInt8} {n : Int} (h : ((c.toNat : Int) == n) = true) (hd : (d.toNat : Int) = n) : c = d := by
  have := eq_of_beq h
  exact UInt8.toNat_inj.1 (by omega)
theorem byte_ne {c d : UInt8} {n : Int} (h : ((c.toNat : Int) == n) = false) (hd : (d.toNat : Int) = n) : c ≠ d := by
  rintro rfl
  rw [hd] at h
  simp at h
def PartsInv (d : UInt8) (s : ByteArray) (q k : Nat) (L : List ByteArray) : Prop :=
  parts d s.data.toList = L.map (·.data.toList) ++ parts d (s.data.toList.drop q) ∧ ∀ j, q ≤ j → j < k → s.data.toList[j]? ≠ some d
theorem pinv_start (d : UInt8) (s : ByteArray) : PartsInv d s 0 0 [] := ⟨by simp, fun j _ h => absurd h (Nat.not_lt_zero j)⟩
theorem PartsInv.step {d : UInt8} {s : ByteArray} {q k : Nat} {L : List ByteArray} {c : UInt8} (h : PartsInv d s q k L) (hk : s.data.toList[k]? = some c) (hc : c ≠ d) : PartsInv d s q (k + 1) L :=
  ⟨h.1, fun j h1 h2 e => by
    by_cases hj : j = k
    · subst hj; rw [hk] at e; injection e with e; exact hc e
    · exact h.2 j h1 (by omega) e⟩
theorem no_sep {d : UInt8} {s : List UInt8} {q k : Nat} (h : ∀ j, q ≤ j → j < k → s[j]? ≠ some d) : ∀ x ∈ (s.drop q).take (k - q), x ≠ d := by
  rintro x hx rfl
  obtain ⟨i, hi⟩ := List.getElem?_of_mem hx
  rw [List.getElem?_take] at hi
  split at hi
  · rw [List.getElem?_drop] at hi
    exact h (q + i) (by omega) (by omega) hi
  · cases hi
theorem PartsInv.cut {d : UInt8} {s : ByteArray} {q k : Nat} {L : List ByteArray} (h : PartsInv d s q k L) (hq : q ≤ k) (hk : s.data.toList[k]? = some d) : PartsInv d s (k + 1) (k + 1) (L ++ [s.extract q k]) := by
  refine ⟨?_, fun j h1 h2 => by omega⟩
  have e : s.data.toList.drop q = (s.data.toList.drop q).take (k - q) ++ d :: s.data.toList.drop (k + 1) := by
    conv => lhs; rw [← List.take_append_drop (k - q) (s.data.toList.drop q), List.drop_drop, show q + (k - q) = k by omega, drop_eq hk]
  rw [h.1, e, parts_cut _ (no_sep h.2), List.map_append, List.append_assoc]
  simp only [List.map_cons, List.map_nil, List.singleton_append]
  rw [Lib.extract_data]
theorem PartsInv.fin {d : UInt8} {s : ByteArray} {q : Nat} {L : List ByteArray} (h : PartsInv d s q s.size L) : (parts d s.data.toList).map toB = L ++ [s.extract q s.size] := by
  have hl : s.data.toList.length = s.size := (Lib.size_eq s).symm
  have e : (s.data.toList.drop q).take (s.size - q) = s.data.toList.drop q := List.take_of_length_le (by rw [List.length_drop, hl]; exact Nat.le_refl _)
  have hn := no_sep h.2
  rw [e] at hn
  have e2 : toB (s.data.toList.drop q) = s.extract q s.size := by rw [← e, ← Lib.extract_data, toB_of]
  rw [h.1, parts_none hn, List.map_append, List.map_map, map_toB, List.map_cons, List.map_nil, e2]

theorem elemOk_parts : ElemOk Tryz.prog 25 9 1 := elemOk_of Tryz.underlying25 (z := .string ⟨#[]⟩) (b := 16) (by kernel_rfl) rfl (by decide)
set_option maxHeartbeats 1000000 in
set_option maxRecDepth 100000 in
theorem refParts_any (s : ByteArray) (w : World) (hs : s.size ≤ 100000000) :
    Calls Tryz.prog 14 #[.string s] w fun e w' => ∃ r, e = .returned r ∧ Chg Never w w' ∧ Rdv w' (Old w.heap.size) r ((parts 10 s.data.toList).map toB) := by
  go_enter Tryz.func14, Tryz.ntmps14
  go_wp2_with fail
  go_loopw [3, 4, 5] (fun o fr i wr => ∃ (q k : Nat) (L : List ByteArray), fr = .int .i64 q ∧ i = .int .i64 k ∧ q ≤ k ∧ k ≤ s.size ∧ Chg Never w wr ∧ Own 9 wr (Old w.heap.size) o L ∧ L.length ≤ k ∧ Hid (PartsInv 10 s q k L)) (fun _ _ i _ => s.size - (intOf i).toNat)
  case atStart => exact ⟨0, 0, [], rfl, rfl, Nat.le_refl _, Nat.zero_le _, Chg.refl _ _, own_nil _ _ _, Nat.le_refl _, pinv_start _ _⟩
  case round =>
    obtain ⟨q, k, L, rfl, rfl, hqk, hk, hc, hown, hL, hP⟩ := hrel
    by_cases hlt : k < s.size
    · have HB := Lib.hid (byte_at hlt)
      cases hq : (((s[k]'hlt).toNat : Int) == 10) with
      | true =>
        have HC : Hid (PartsInv 10 s (k + 1) (k + 1) (L ++ [s.extract q k])) := hP.out.cut hqk (by rw [HB.out, byte_eq (d := 10) hq rfl])
        have hes : (s.extract q k).size ≤ maxLen := by rw [ByteArray.size_extract]; unfold maxLen; omega
        go_wp2_with (at_builtin; refine wpList_push (by rfl) _ _ 25 (by rfl) elemOk_parts (O := Old w.heap.size) (l := L) (y := s.extract q k) (by rfl) (by rfl) (by simp) hown ⟨rfl, hes⟩ (old_lt hc) (by omega) ?_; intro v' w2 hown2 hc2 _)
        have hc3 := own_step hc hown hc2
        clear hc2 hown hc
        go_wp2_with fail
        go_roundw
        case rel => exact ⟨k + 1, k + 1, _, by go_num, by go_num, Nat.le_refl _, by omega, hc3, hown2, by simp; omega, HC⟩
        case measure => simp [intOf] <;> omega
      | false =>
        have HC : Hid (PartsInv 10 s q (k + 1) L) := hP.out.step HB.out (byte_ne hq rfl)
        go_wp2_with fail
        go_roundw
        case rel => exact ⟨q, k + 1, L, rfl, by go_num, by omega, by omega, hc, hown, by omega, HC⟩
        case measure => simp [intOf] <;> omega
    · obtain rfl : k = s.size := by omega
      have HC := Lib.hid hP.out.fin
      have hes : (s.extract q s.size).size ≤ maxLen := by rw [ByteArray.size_extract]; unfold maxLen; omega
      go_wp2_with (at_builtin; refine wpList_push (by rfl) _ _ 25 (by rfl) elemOk_parts (O := Old w.heap.size) (l := L) (y := s.extract q s.size) (by rfl) (by rfl) (by simp) hown ⟨rfl, hes⟩ (old_lt hc) (by omega) ?_; intro v' w2 hown2 hc2 _)
      have hc3 := own_step hc hown hc2
      clear hc2 hown hc
      go_wp2_with fail
      go_ret
      exact ⟨_, rfl, hc3, by rw [HC.out]; exact hown2.rdv⟩

end Go.Proofs.YtmjpfoeaobdaeaaGreatDoor
