/-
  PARTS: THE WALKS of api.Errno's Error, of errors.Is at an Errno and ErrNone, and of told (run and the document's).; THE WALK of (*session).diff: a range over strings.Lines.; ROWS OF A SLICE OF ITS OWN, element by element: what copy, clear, append do to one. No function of the program in sight.; THE WALKS of tree.Get (its lines lie in a row of their own), of run.lines, run.more.; THE WALK of run.number: a number of four digits at most, or a panic.
-/
import Derived.Test.YtmjpfoeaobdaeaaGreatDoorPr1
import Derived.Test.YtmjpfoeaobdaeaaGreatDoorPr12
import Derived.Test.YtmjpfoeaobdaeaaGreatDoorPr10
import Derived.Test.YtmjpfoeaobdaeaaGreatDoorPr2
import Derived.Deep.RegionHeld3
import Derived.Deep.QuietTactic
import Derived.BigQuiet
import Derived.Test.YtmjpfoeaobdaeaaGreatDoorPr9
import Derived.Lib.AppendZerosOnto
import Derived.Test.YtmjpfoeaobdaeaaGreatDoorPr8
import Derived.Test.YtmjpfoeaobdaeaaGreatDoorPr11
import Derived.Lib.AtoiTie
set_option linter.unusedVariables false
set_option linter.unusedSimpArgs false
namespace Go.Proofs.YtmjpfoeaobdaeaaGreatDoor
open Go.RowKit Go.Extern.Stop Go.Stop Go.Extern

set_option maxHeartbeats 1000000 in
set_option maxRecDepth 100000 in
theorem errno_any (k : Int) (w : World) : Calls Tryz.prog 55 #[.int .i64 k] w fun e w' => e = .returned (.string (toB (errText k))) ∧ w = w' := by
  by_cases h : k = 0
  · subst h
    go_enter Tryz.func55, Tryz.ntmps55
    go_wp2_with fail
    go_ret
    exact ⟨rfl, rfl⟩
  have b0 : (k == 0) = false := beq_eq_false_iff_ne.2 h
  have g0 := Lib.hid h
  clear h
  by_cases h : k = 1
  · subst h
    go_enter Tryz.func55, Tryz.ntmps55
    go_wp2_with fail
    go_ret
    exact ⟨rfl, rfl⟩
  have b1 : (k == 1) = false := beq_eq_false_iff_ne.2 h
  have g1 := Lib.hid h
  clear h
  by_cases h : k = 2
  · subst h
    go_enter Tryz.func55, Tryz.ntmps55
    go_wp2_with fail
    go_ret
    exact ⟨rfl, rfl⟩
  have b2 : (k == 2) = false := beq_eq_false_iff_ne.2 h
  have g2 := Lib.hid h
  clear h
  by_cases h : k = 3
  · subst h
    go_enter Tryz.func55, Tryz.ntmps55
    go_wp2_with fail
    go_ret
    exact ⟨rfl, rfl⟩
  have b3 : (k == 3) = false := beq_eq_false_iff_ne.2 h
  have g3 := Lib.hid h
  clear h
  by_cases h : k = 4
  · subst h
    go_enter Tryz.func55, Tryz.ntmps55
    go_wp2_with fail
    go_ret
    exact ⟨rfl, rfl⟩
  have b4 : (k == 4) = false := beq_eq_false_iff_ne.2 h
  have g4 := Lib.hid h
  clear h
  by_cases h : k = 5
  · subst h
    go_enter Tryz.func55, Tryz.ntmps55
    go_wp2_with fail
    go_ret
    exact ⟨rfl, rfl⟩
  have b5 : (k == 5) = false := beq_eq_false_iff_ne.2 h
  have g5 := Lib.hid h
  clear h
  by_cases h : k = 6
  · subst h
    go_enter Tryz.func55, Tryz.ntmps55
    go_wp2_with fail
    go_ret
    exact ⟨rfl, rfl⟩
  have b6 : (k == 6) = false := beq_eq_false_iff_ne.2 h
  have g6 := Lib.hid h
  clear h
  have HT : Hid (toB (errText k) = ⟨#[69, 114, 114, 110, 111]⟩) := by
    unfold Hid errText
    rw [if_neg g0.out, if_neg g1.out, if_neg g2.out, if_neg g3.out, if_neg g4.out, if_neg g5.out, if_neg g6.out]
    rfl
  go_enter Tryz.func55, Tryz.ntmps55
  go_wp2_with fail
  go_ret
  exact ⟨by rw [HT.out]; rfl, rfl⟩

/-! ### errors.Is at an Errno -/
/-- the model's entry -/
def cmpE : Array Value → Sem Value := ReflectliteType.method fun t => do Rtype.noPackHeld "Comparable" t; pure (.bool (← typeInfo t).comparable)
theorem is_comparable (w : World) : (cmpE #[tE]).run Tryz.prog w = .ok (.bool true) w := by kernel_rfl
theorem is_methodComparable (h : Value) (w : World) : (Go.method 391 194 (.agg #[h]) "Comparable").run Tryz.prog w = .ok (203, .agg #[h]) w := by kernel_rfl
theorem is_noIs (v : Value) (xT : TypeId) (w : World) : (Instr.typeAssert (.iface 64 v) xT 196 true).run Tryz.prog w = .ok (.tuple #[.nilIface, .bool false]) w := run_typeAssert_lacksB Tryz.underlying196 (by kernel_rfl) (by kernel_rfl) v xT w
theorem is_noUnwrap (v : Value) (xT : TypeId) (w : World) : (Instr.typeAssert (.iface 64 v) xT 199 true).run Tryz.prog w = .ok (.tuple #[.nilIface, .bool false]) w := run_typeAssert_lacksB Tryz.underlying199 (by kernel_rfl) (by kernel_rfl) v xT w
theorem is_noUnwraps (v : Value) (xT : TypeId) (w : World) : (Instr.typeAssert (.iface 64 v) xT 201 true).run Tryz.prog w = .ok (.tuple #[.nilIface, .bool false]) w := run_typeAssert_lacksB Tryz.underlying201 (by kernel_rfl) (by kernel_rfl) v xT w
theorem errno_info : (Tryz.prog.info? 64).map (·.comparable) = some true := by kernel_rfl
theorem eqlIn_errno (d : Nat) (a b : Int) (w : World) : (Op.equalIn (d + 2) 41 (.iface 64 (.int .i64 a)) (.iface 64 (.int .i64 b))).run Tryz.prog w = .ok (a == b) w := by
  obtain ⟨i, hi, hc⟩ := Option.map_eq_some_iff.1 errno_info
  simp [Op.equalIn, run_underlying Tryz.underlying41, run_underlying Tryz.underlying64, typeInfo, hi, hc]
theorem eql_errno (a b : Int) (w : World) : (binOp .eql 41 (.iface 64 (.int .i64 a)) (.iface 64 (.int .i64 b))).run Tryz.prog w = .ok (.bool (a == b)) w := by
  have h := eqlIn_errno 9998 a b w
  simp only [binOp]
  simp [Op.equal, Op.maxDepth, h]
set_option maxHeartbeats 2000000 in
set_option maxRecDepth 100000 in
theorem is_none_any (k : Int) (w : World) : Calls Tryz.prog 69 #[errV k, .iface 64 (.int .i64 4)] w fun e w' => e = .returned (.bool (k == 4)) ∧ w = w' := by
  by_cases h : k = 0
  · subst h
    rw [errV_zero]
    have hn := run_eql_iface_nil_left (P := Tryz.prog) w 64 (.int .i64 4) Tryz.underlying41
    go_enter Tryz.func69, Tryz.ntmps69
    go_wp2
    go_ret
    exact ⟨rfl, rfl⟩
  · rw [errV_pos h]
    clear h
    have h8 := @run_callFunc_extern Tryz.prog 102 _ ReflectliteType.typeOf Tryz.func102 (by kernel_rfl) (by kernel_rfl) (by kernel_rfl) (by kernel_rfl)
    have h32 := @run_callFunc_extern Tryz.prog 203 _ cmpE Tryz.func203 (by kernel_rfl) (by kernel_rfl) (by kernel_rfl) (by kernel_rfl)
    have tT := as_typeOfE
    have cT := is_comparable
    have mR := is_methodComparable
    have nE := is_noIs
    have uE := is_noUnwrap
    have vE := is_noUnwraps
    have heq := eql_errno k 4 w
    cases hk : (k == 4) with
    | true =>
      rw [hk] at heq
      clear hk
      go_enter Tryz.func69, Tryz.ntmps69
      go_wp2
      refine wp_loop_rounds 1 ?_
      rw [rounds_succ]
      go_wp2
      go_ret
      exact ⟨rfl, rfl⟩
    | false =>
      rw [hk] at heq
      clear hk
      go_enter Tryz.func69, Tryz.ntmps69
      go_wp2
      refine wp_loop_rounds 1 ?_
      rw [rounds_succ]
      go_wp2
      go_ret
      exact ⟨rfl, rfl⟩

/-! ### told -/
theorem told_zero (s : List UInt8) : toldS s 0 = s ++ [10] := by unfold toldS; rw [if_pos rfl]
theorem told_pos {k : Int} (h : k ≠ 0) (s : List UInt8) : toldS s k = errText k ++ [10] := by unfold toldS; rw [if_neg h]
theorem toB_line (s : List UInt8) : toB s ++ (⟨#[10]⟩ : ByteArray) = toB (s ++ [10]) := by rw [toB_append]; rfl
theorem toB_sz (X : List UInt8) : (toB X).size = X.length := by rw [Lib.size_eq, toB_data]
theorem err_len (k : Int) : (errText k).length ≤ 10 := by
  unfold errText
  repeat' split
  all_goals decide
set_option maxHeartbeats 1000000 in
set_option maxRecDepth 100000 in
theorem rtold_any (s : List UInt8) (hs : s.length ≤ 1000000) (k : Int) (w : World) (hg : w.cell? ⟨1, 0, none⟩ = some errT) :
    Calls Tryz.prog 38 #[.string (toB s), errV k] w fun e w' => e = .returned (.string (toB (toldS s k))) ∧ Chg Never w w' := by
  by_cases h : k = 0
  · subst h
    have HT : Hid (toB s ++ (⟨#[10]⟩ : ByteArray) = toB (toldS s 0)) := by rw [Hid, told_zero, toB_line]
    have n1 : ¬ (9223372036854775807 < (toB s).size + (⟨#[10]⟩ : ByteArray).size) := by rw [toB_sz]; show ¬ (_ < s.length + 1); omega
    rw [errV_zero]
    generalize toB s = S at HT n1 ⊢
    go_enter Tryz.func38, Tryz.ntmps38
    go_wp2_with (go_at_call 70; refine (as_nil _ _).mono ?_; rintro e w' ⟨rfl, rfl⟩)
    go_ret
    exact ⟨by rw [← HT.out]; rfl, (Chg.refl Never w).alloc _⟩
  · have HT : Hid (toB (errText k) ++ (⟨#[10]⟩ : ByteArray) = toB (toldS s k)) := by rw [Hid, told_pos h, toB_line]
    have he := err_len k
    have n1 : ¬ (9223372036854775807 < (toB (errText k)).size + (⟨#[10]⟩ : ByteArray).size) := by rw [toB_sz]; show ¬ (_ < (errText k).length + 1); omega
    have hlt : 1 < w.heap.size := by
      rcases Nat.lt_or_ge 1 w.heap.size with h | h
      · exact h
      · simp [World.cell?, Array.getElem?_eq_none h] at hg
    have hgA : (w.alloc (.cells #[.int .i64 0] 64)).cell? ⟨1, 0, none⟩ = some errT := by rw [World.cell?_alloc_lt _ _ ⟨1, 0, none⟩ hlt]; exact hg
    have htA : (w.alloc (.cells #[.int .i64 0] 64)).cell? ⟨w.heap.size, 0, none⟩ = some (.int .i64 0) := by simp
    have hfA : (w.alloc (.cells #[.int .i64 0] 64)).frozen? ⟨w.heap.size, 0, none⟩ = false := by simp
    have hE := fun wx => Lib.hid (errno_any k wx)
    rw [errV_pos h]
    generalize toB (errText k) = T at HT n1 hE
    generalize toB s = S
    clear h he
    go_enter Tryz.func38, Tryz.ntmps38
    go_wp2_with (first | (go_at_call 70; refine (as_hit k _ (.int .i64 0) _ hgA htA hfA).mono ?_; rintro e w' ⟨rfl, rfl⟩) | (go_at_call 55; refine (hE _).out.mono ?_; rintro e w' ⟨rfl, rfl⟩))
    go_ret
    exact ⟨by rw [← HT.out]; rfl, (((((Chg.refl Never w).alloc _).alloc _).alloc _).alloc _).alloc _⟩
end Go.Proofs.YtmjpfoeaobdaeaaGreatDoor
namespace Go.Proofs.YtmjpfoeaobdaeaaGreatDoor
open Go.RowKit Go.Shelf
attribute [local go_sem] Oper.semAt_some

theorem whole_text (l : List (List UInt8)) : Whole (textL l) := by
  unfold textL
  cases e : l.reverse with
  | nil =>
    have : l = [] := by simpa using e
    subst this
    exact Or.inl rfl
  | cons x r =>
    have : l = r.reverse ++ [x] := by
      have := congrArg List.reverse e
      simpa using this
    subst this
    right
    simp
theorem chg_putObj (w : World) (k : Nat) (o : Obj) : Chg (fun j => j = k) w (w.putObj k o) :=
  ⟨rfl, rfl, rfl, by simp, fun j _ hj => World.putObj_heap_other hj⟩
/-- the first so many lines, each behind a blank -/
def blankP (l : List ByteArray) : List UInt8 := (l.map fun x => 32 :: x.data.toList).flatten
theorem blankP_snoc (l : List ByteArray) (x : ByteArray) : blankP (l ++ [x]) = blankP l ++ (32 :: x.data.toList) := by unfold blankP; simp
theorem blankP_le {l r : List ByteArray} {x : ByteArray} : (blankP l).length + x.size + 1 ≤ (blankP (l ++ x :: r)).length := by
  have : (32 :: x.data.toList).length = x.size + 1 := by rw [List.length_cons, Lib.size_eq]
  unfold blankP at *
  simp only [List.map_append, List.map_cons, List.flatten_append, List.flatten_cons, List.length_append, this]
  omega
theorem strCells_blank (x : ByteArray) : Lib.strCells ((⟨#[32]⟩ : ByteArray) ++ x) = Lib.byteCells (32 :: x.data.toList) := by
  unfold Lib.strCells Lib.byteCells
  rw [bytes_append]
  rfl
/-- a post that no panic meets -/
def noPanic (Q : Exit → Act → World → Prop) : Exit → Act → World → Prop
  | .panic _, _, _ => False
  | .normal, a, w => Q .normal a w
  | .ret, a, w => Q .ret a w
  | .exit i, a, w => Q (.exit i) a w
  | .goto t, a, w => Q (.goto t) a w
  | .outgrown, a, w => Q .outgrown a w
theorem noPanic_le {Q : Exit → Act → World → Prop} : ∀ (e : Exit) (a : Act) (w : World), noPanic Q e a w → Q e a w
  | .panic _, _, _, h => h.elim
  | .normal, _, _, h => h
  | .ret, _, _, h => h
  | .exit _, _, _, h => h
  | .goto _, _, _, h => h
  | .outgrown, _, _, h => h
/-- what a round of the loop finds -/
def RoundI (w0 : World) (B bB : Nat) (pre : List ByteArray) (W : World) : Prop :=
  ∃ v, BldV bB v (Lib.byteCells (blankP pre)) W ∧ Chg Never w0 W ∧ (∀ k, v.ownBlock = some k → B < k) ∧ w0.heap.size ≤ bB ∧ bB < B ∧ B < W.heap.size
theorem BldV.cells {b : Nat} {v : Value} {bs : List Value} {w : World} (h : BldV b v bs w) {k : Nat} (hk : BldO b v k) {o : Obj} (ho : w.heap[k]? = some o) : o.isCells = true := by
  obtain ⟨p, hp, h1, h2, _⟩ := h
  rcases hk with rfl | hk
  · rw [h1] at ho
    injection ho with ho
    subst ho; rfl
  · rcases h2.2 with ⟨rfl, _⟩ | ⟨g, cap, cur, fz, rfl, hb, hg, rest⟩
    · cases hk
    · injection hk with hk
      subst hk
      rw [hg] at ho
      injection ho with ho
      subst ho; rfl
theorem round_put {w0 : World} {B bB : Nat} {pre : List ByteArray} {W : World} {k : Nat} {o o' : Obj} (hk : w0.heap.size ≤ k) (ho : W.heap[k]? = some o) (hc : o.isCells = false) (h : RoundI w0 B bB pre W) : RoundI w0 B bB pre (W.putObj k o') := by
  obtain ⟨v, h1, h2, h3, h4, h5, h6⟩ := h
  refine ⟨v, h1.keep (chg_putObj W k o') (fun j hj hh => ?_), h2.trans' (chg_putObj W k o') (fun j hj hh => absurd hj (by omega)), h3, h4, h5, by simpa using h6⟩
  subst hj
  have := h1.cells hh ho
  rw [hc] at this; cases this
theorem round_notO {w0 : World} {B bB : Nat} {v : Value} (h3 : ∀ k, v.ownBlock = some k → B < k) (hb : bB < B) : ¬ BldO bB v B := by
  rintro (h | h)
  · omega
  · exact absurd (h3 B h) (Nat.lt_irrefl _)
theorem round_set {w0 : World} {B bB : Nat} {pre : List ByteArray} {W : World} (u : Value) (h : RoundI w0 B bB pre W) : RoundI w0 B bB pre (W.setCell ⟨B, 0, none⟩ u) := by
  obtain ⟨v, h1, h2, h3, h4, h5, h6⟩ := h
  have hc : Chg (fun j => j = B) W (W.setCell ⟨B, 0, none⟩ u) := Chg.setCell (O := fun j => j = B) (Chg.refl _ W) (p := ⟨B, 0, none⟩) (.inr rfl) u
  refine ⟨v, h1.keep hc (fun j hj hh => ?_), h2.trans' hc (fun j hj hh => absurd hj (by omega)), h3, h4, h5, Nat.lt_of_lt_of_le h6 hc.size⟩
  subst hj
  exact round_notO (w0 := w0) h3 h5 hh
theorem round_drew {w0 : World} {B bB : Nat} {pre : List ByteArray} {W : World} (h : RoundI w0 B bB pre W) : RoundI w0 B bB pre W.drew := by
  obtain ⟨v, h1, h2, h3, h4⟩ := h
  exact ⟨v, h1.keep (O := Never) ((Chg.refl _ W).drew) (fun _ h => h.elim), h2.drew, h3, h4⟩
theorem round_new {w0 w2 wl : World} (hc : Chg Never w0 w2) (hwl : Chg Never (w2.alloc (.cells #[.pointer none, .slice none 0 0] 37)) wl) (hl : w2.heap.size + 1 < wl.heap.size) : RoundI w0 (w2.heap.size + 1) w2.heap.size [] wl :=
  ⟨.slice none 0 0, (BldV.new w2).keep hwl (fun _ h => h.elim), (hc.alloc _).trans hwl, fun k hk => by simp [Value.ownBlock] at hk, hc.size, Nat.lt_succ_self _, hl⟩
/-- a round's end -/
theorem round_end {w0 : World} {D B bB : Nat} {pre : List ByteArray} {x : ByteArray} {W W' : World} {v v' : Value} (h1 : BldV bB v (Lib.byteCells (blankP pre)) W) (h2 : Chg Never w0 W) (h3 : ∀ k, v.ownBlock = some k → B < k) (h4 : w0.heap.size ≤ bB) (h5 : bB < B) (hB : B < W.heap.size)
    (g1 : BldV bB v' (Lib.byteCells (blankP pre) ++ Lib.strCells ((⟨#[32]⟩ : ByteArray) ++ x)) W') (g2 : Chg (BldO bB v) W W') (g3 : ∀ k, v'.ownBlock = some k → v.ownBlock = some k ∨ W.heap.size ≤ k) :
    KeepsFrom D W W' ∧ CellKept B W W' ∧ RoundI w0 B bB (pre ++ [x]) W' := by
  refine ⟨⟨g2.size, fun k o _ ho hc => ?_⟩, CellKept.of_block (g2.block B hB (round_notO (w0 := w0) h3 h5)), v', ?_, h2.trans' g2 ?_, ?_, h4, h5, Nat.lt_of_lt_of_le hB g2.size⟩
  · rw [g2.block k (Array.getElem?_eq_some_iff.1 ho).1 (fun hh => by have := h1.cells hh ho; rw [hc] at this; cases this)]
    exact ho
  · rw [blankP_snoc, Lib.byteCells_append, ← strCells_blank]; exact g1
  · rintro i hi (hh | hh)
    · omega
    · have := h3 i hh; omega
  · intro k hk
    rcases g3 k hk with q | q
    · exact h3 k q
    · omega
theorem BldV.isBB {base b : Nat} {v : Value} {bs : List Value} {w : World} (h : BldV b v bs w) (hb : ∀ k, BldO b v k → base ≤ k) : IsB base b bs w := by
  obtain ⟨p, hp, h1, h2, h3⟩ := h
  have h2' : w.ownsRowF base 5 1 v bs.length bs := by
    refine ⟨h2.1, ?_⟩
    rcases h2.2 with q | ⟨g, cap, cur, fz, rfl, _, rest⟩
    · exact .inl q
    · exact .inr ⟨g, cap, cur, fz, rfl, hb g (.inr rfl), rest⟩
  rcases hp with rfl | rfl
  · exact .inl ⟨hb b (.inl rfl), v, h1, h2', h3⟩
  · exact .inr ⟨hb b (.inl rfl), v, h1, h2', h3⟩
set_option maxHeartbeats 1000000 in
theorem lines_any (s : ByteArray) (w : World) : Calls Tryz.prog 76 #[.string s] w fun e w' => e = .returned (.func (.func 112) #[] #[.pointer (some ⟨w.heap.size, 0, none⟩)]) ∧ w' = w.alloc (.cells #[.string s] 9) := by
  have hmf : ∀ (fn : Fn) (first cap : Array Value) (w : World), (Instr.makeFunc fn first cap).run Tryz.prog w = .ok (.func fn first cap) w := fun _ _ _ _ => rfl
  go_enter Tryz.func76, Tryz.ntmps76
  go_wp2_with fail
  go_ret
  exact ⟨rfl, rfl⟩
set_option maxHeartbeats 4000000 in
set_option maxRecDepth 100000 in
theorem rdiff_ok (b : Nat) (m : Ses) (n : Nat) (hn : n ≤ 1000) (w : World) (vo vn : Value) (hb : Blk2 w b 33 vo vn) (ho : Rdv w Never vo m.old) (hw : Rdv w Never vn m.new) (hok : SesOk m) (mx : Int) (hg : w.cell? ⟨0, 0, none⟩ = some (.int .i64 mx)) :
    Calls Tryz.prog 41 #[.pointer (some ⟨b, 0, none⟩), .int .i64 n] w fun e w' => e = .returned (.string (toB (diffS m n))) ∧ Chg Never w w' := by
  obtain ⟨c0, c1⟩ := hb.cell
  have hlt := hb.lt
  have HD : Hid (diffFault m.old m.new (n : Int) = 0) := diffFault_0 (tree_iff.1 hok.1) (tree_iff.1 hok.2) (by omega) (by omega)
  have HDR : Hid (diffR m.old m.new (n : Int) = diffL n m.old m.new) := diffR_ok HD.out
  have HPF : Hid (patchFault (diffL n m.old m.new) = (0, 0)) := patch_ok (diff_leads hok.1 hok.2 (n := (n : Int)) (by omega) (by omega)).1
  have HG : Hid (gitR (diffL n m.old m.new) = toB (textG (diffL n m.old m.new))) := if_pos (by rw [HPF.out])
  have HT : Hid (diffS m n = blankL (textG (diffL n m.old m.new)) ++ okL) := if_pos hn
  have htl := diff_text_len hok hn
  have hwt : Whole (textG (diffL n m.old m.new)) := whole_text _
  have hI : I64 (n : Int) := ⟨by omega, by omega⟩
  obtain ⟨oa, oc, rfl, _, _, _⟩ := rdv_slice ho
  obtain ⟨na, nc, rfl, _, _, _⟩ := rdv_slice hw
  refine (callsIn_wide (n := 4)).1 ?_
  refine callsIn_of_wp_marks Tryz.func41 rfl trivial ?_ rfl
  simp only [Tryz.ntmps41, List.size_toArray, List.length_cons, List.length_nil, Nat.reduceAdd, Nat.reduceSub, Array.replicate_succ, Array.replicate_zero, List.push_toArray, List.append_toArray, List.nil_append, List.cons_append]
  refine wpIn_mono (Q := noPanic (bodyPostM Fence.wide 4 Tryz.prog Tryz.f41 _)) ?_ noPanic_le
  have hmx : Tryz.prog.follows .mixedOrders = true := by kernel_rfl
  gi_wp2_with fail
  have hcd : Chg Never w w.drew := (Chg.refl Never w).drew
  have hod := ho.never hcd
  have hwd := hw.never hcd
  gi_region_with_o (refine ⟨trivial, ?_⟩; gi_at_call 45; refine (callsIn_wide.2 (diff_old m.old m.new n _ _ _ hod hwd hI mx hg)).mono ?_; rintro e w1 ⟨r1, rfl, hc1, hr1⟩; rw [HD.out, errV_zero]; rw [HDR.out] at hr1; obtain ⟨ra, rc, rfl, _, _, _⟩ := rdv_slice hr1)
  all_goals
    have hw1 := hcd.trans hc1
    gi_wp2_with (refine ⟨trivial, ?_⟩; gi_at_call 75; refine (callsIn_wide.2 (gitprint_any (diffL n m.old m.new) _ _ (hr1.sub (fun _ _ h => h.elim)) mx (hw1.cellNever hg))).mono ?_; rintro e w2 ⟨rfl, hc2⟩; rw [HG.out, HPF.out, errV_zero])
    have hw2 := hw1.trans hc2
    generalize hT0 : textG (diffL n m.old m.new) = T at HT htl hwt
    clear HG HPF HDR HD hr1 hc1 hc2 hod hwd ho hw
    gi_wp2_with (refine ⟨trivial, ?_⟩; gi_at_call 76; refine (callsIn_wide.2 (lines_any (toB T) _)).mono ?_; rintro e w3 ⟨rfl, rfl⟩)
    obtain ⟨wl, hwl⟩ : ∃ wl, (w2.alloc (.cells #[.pointer none, .slice none 0 0] 37)).alloc (.cells #[.string (toB T)] 9) = wl := ⟨_, rfl⟩
    have hcl : Chg Never (w2.alloc (.cells #[.pointer none, .slice none 0 0] 37)) wl := by rw [← hwl]; exact (Chg.refl _ _).alloc _
    have hls : wl.heap.size = w2.heap.size + 2 := by rw [← hwl]; simp
    have hws := hw2.size
    have hnw := heap_alloc_new (w2.alloc (.cells #[.pointer none, .slice none 0 0] 37)) (.cells #[.string (toB T)] 9)
    rw [World.size_alloc, hwl] at hnw
    have hBc : wl.cell? ⟨w2.heap.size + 1, 0, none⟩ = some (.string (toB T)) := by simp only [World.cell?, hnw]; rfl
    have hBf : wl.frozen? ⟨w2.heap.size + 1, 0, none⟩ = false := by simp only [World.frozen?, hnw]; rfl
    have hbl := blank_len T
    have HCH : Hid (blankP (chunksL T) = blankL T) := chunks_blank T
    rw [hwl]
    clear hwl
    refine' wpIn_rangeFunc_gives (by decide) (gf := 112) (lb := #[.pointer (some ⟨w2.heap.size + 1, 0, none⟩)]) rfl (enters_of Tryz.func112 (by kernel_rfl) rfl)
      (lines_gives (4 - 1) (by decide) T hwt (by omega) (w2.heap.size + 1) wl hBc hBf) (by omega) rfl
      (RoundI w (w2.heap.size + 1) w2.heap.size) (fun pre W k o o' hk ho hc h => round_put (by omega) ho hc h) (fun pre W u h => round_set u h) (fun pre W h => round_drew h) (fun o1 o2 => round_new hw2 ((hcl.alloc o1).alloc o2) (by simp; omega)) _ ?assign ?body ?done
    case assign =>
      intro l x W K hK
      gi_wp2
      exact hK
    case body =>
      rintro l pre x W ⟨v, h1, h2, h3, h4, h5, hlt2⟩ ⟨r, hr⟩
      have hle := blankP_le (l := pre) (r := r) (x := x)
      rw [← hr, HCH.out] at hle
      have hB9 : (Lib.byteCells (blankP pre)).length + ((⟨#[32]⟩ : ByteArray) ++ x).size ≤ 140737488355328 := by rw [Lib.byteCells_length, ByteArray.size_append]; show _ + (1 + x.size) ≤ _; omega
      have n1 : ¬ (9223372036854775807 < (⟨#[32]⟩ : ByteArray).size + x.size) := by show ¬ (_ < 1 + x.size); omega
      gi_wp2_with (refine ⟨trivial, ?_⟩; gi_at_call 11; refine (CallsIn.inRound l (callsIn_wide.2 (bldv_string w2.heap.size v _ ((⟨#[32]⟩ : ByteArray) ++ x) W h1 hB9))).mono ?_; rintro e W' ⟨rfl, v', g1, g2, g3⟩)
      exact round_end h1 h2 h3 h4 h5 hlt2 g1 g2 g3
    case done =>
      rintro D W hD ⟨v, h1, h2, h3, h4, h5, h6⟩ hK
      rw [HCH.out] at h1
      have hI0 := h1.isBB (base := w.heap.size) (fun k hk => hk.elim (fun q => by omega) (fun q => by have := h3 k q; omega))
      have n1 : ¬ (9223372036854775807 < (toB (blankL T)).size + (⟨#[111, 107, 10]⟩ : ByteArray).size) := by rw [toB_sz]; show ¬ (_ < (blankL T).length + 3); omega
      have HO : Hid (toB (blankL T) ++ (⟨#[111, 107, 10]⟩ : ByteArray) = toB (diffS m n)) := by rw [Hid, HT.out, toB_append]; rfl
      have hSS := Lib.hid (Tryz.Builder_String_any_k w.heap.size w2.heap.size (blankL T) W hI0 (h2.size))
      generalize hX : toB (blankL T) = X at n1 HO
      gi_wp2_with (refine ⟨trivial, ?_⟩; gi_at_call 13; refine (callsIn_wide.2 hSS.out).mono ?_; rintro e W' ⟨rfl, _, hb4, hok4⟩; rw [show (⟨(blankL T).toArray⟩ : ByteArray) = X from hX])
      have hK4 : W'.heap[D]? = some (.deferred (some [])) := hok4 D _ hK (fun e => by injection e with e; omega) (fun c fz e => by cases e)
      have hcW : Chg Never w W' := Chg.of_below (h2.never.trans hb4)
      refine ⟨by simp, .inl ⟨_, _, rfl, run_takeDeferred hK4, ?_⟩⟩
      exact ⟨_, results_tmp rfl _ _ _, by rw [← HO.out]; rfl, hcW.trans' (chg_putObj W' D _) (fun j hj hh => by omega)⟩
set_option maxHeartbeats 2000000 in
set_option maxRecDepth 100000 in
theorem rdiff_bad (b : Nat) (m : Ses) (n : Nat) (hn : ¬ n ≤ 1000) (hn9 : n < 10000) (w : World) (vo vn : Value) (hb : Blk2 w b 33 vo vn) (ho : Rdv w Never vo m.old) (hw : Rdv w Never vn m.new) (hok : SesOk m) (mx : Int) (hg : w.cell? ⟨0, 0, none⟩ = some (.int .i64 mx)) (he : w.cell? ⟨1, 0, none⟩ = some errT) :
    Calls Tryz.prog 41 #[.pointer (some ⟨b, 0, none⟩), .int .i64 n] w fun e w' => e = .returned (.string (toB (diffS m n))) ∧ Chg Never w w' := by
  obtain ⟨c0, c1⟩ := hb.cell
  have HD : Hid (diffFault m.old m.new (n : Int) = 1) := diffFault_n (tree_iff.1 hok.1) (tree_iff.1 hok.2) (Or.inr (by omega))
  have HT : Hid (diffS m n = toldS [] 1) := if_neg hn
  have hI : I64 (n : Int) := ⟨by omega, by omega⟩
  obtain ⟨oa, oc, rfl, _, _, _⟩ := rdv_slice ho
  obtain ⟨na, nc, rfl, _, _, _⟩ := rdv_slice hw
  have hcd : Chg Never w w.drew := (Chg.refl Never w).drew
  have hod := ho.never hcd
  have hwd := hw.never hcd
  clear hn
  go_enter Tryz.func41, Tryz.ntmps41
  go_wp2_with fail
  refine wp_region_held_drew (S := fun w' => Chg Never w w' ∧ w'.cell? ⟨b, 0, none⟩ = some (.slice oa m.old.length oc) ∧ w'.cell? ⟨b, 1, none⟩ = some (.slice na m.new.length nc)) (by kernel_rfl) ⟨hcd, c0, c1⟩ (fun hH => ?_)
  refine' tk 0 ?_
  refine' tk 1 ?_
  refine' tk 2 ?_
  refine' tk 3 ?_
  refine' tk 4 ?_
  refine' tk 5 ?_
  refine' tk 6 ?_
  refine' tk 7 ?_
  refine' tk 8 ?_
  refine' tk 9 ?_
  refine' tk 10 ?_
  refine wpAnyH_ready (rs := [11]) (by kernel_rfl) (by simp) ?_
  refine AllReadyH.cons rfl (fun K hK => ?_) AllReadyH.nil
  go_simp
  (go_at_call 45; refine (diff_old m.old m.new n _ _ _ hod hwd hI mx hg).mono ?_; rintro e w1 ⟨r1, rfl, hc1, hr1⟩; rw [HD.out, errV_pos (by decide)]; obtain ⟨ra, rc, rfl, _, _, _⟩ := rdv_slice hr1; have hw1 := hcd.trans hc1; have hS2 : Chg Never w w1 ∧ w1.cell? ⟨b, 0, none⟩ = some (.slice oa m.old.length oc) ∧ w1.cell? ⟨b, 1, none⟩ = some (.slice na m.new.length nc) := ⟨hw1, hw1.cellNever c0, hw1.cellNever c1⟩; clear hr1 hH)
  try go_wp2_with fail
  refine hK.out _ _ ?_ (fun hH => ?_)
  · assumption
  clear hK K
  try simp only [Act.put, List.setIfInBounds_toArray, List.set_cons_zero, List.set_cons_succ]
  refine' tk 12 ?_
  refine' tk 13 ?_
  refine' tk 14 ?_
  refine' tk 15 ?_
  refine' tk 16 ?_
  refine wpAnyH_done (by kernel_rfl) ?_ _
  have hi := rtold_any [] (by simp) 1 _ (hH.1.cellNever he)
  rw [errV_pos (by decide)] at hi
  go_wp2_with fail
  refine hi.mono ?_
  rintro e w2 ⟨rfl, hc2⟩
  go_wp2_with fail
  go_ret
  exact ⟨by rw [HT.out]; rfl, hH.1.trans hc2⟩
theorem rdiff_any (b : Nat) (m : Ses) (n : Nat) (hn9 : n < 10000) (w : World) (vo vn : Value) (hb : Blk2 w b 33 vo vn) (ho : Rdv w Never vo m.old) (hw : Rdv w Never vn m.new) (hok : SesOk m) (mx : Int) (hg : w.cell? ⟨0, 0, none⟩ = some (.int .i64 mx)) (he : w.cell? ⟨1, 0, none⟩ = some errT) :
    Calls Tryz.prog 41 #[.pointer (some ⟨b, 0, none⟩), .int .i64 n] w fun e w' => e = .returned (.string (toB (diffS m n))) ∧ Chg Never w w' := by
  by_cases hn : n ≤ 1000
  · exact rdiff_ok b m n hn w vo vn hb ho hw hok mx hg
  · exact rdiff_bad b m n hn hn9 w vo vn hb ho hw hok mx hg he
end Go.Proofs.YtmjpfoeaobdaeaaGreatDoor
namespace Go.Proofs.YtmjpfoeaobdaeaaGreatDoor
open Go.RowKit

/-! ### elements and their cells -/
def RdL {α : Type} [Dat α] (w : World) (O : Nat → Prop) : List α → List (List Value) → Prop
  | [], [] => True
  | x :: l, c :: r => Dat.rd w O c x ∧ RdL w O l r
  | _, _ => False
theorem RdL.len {α : Type} [Dat α] {w : World} {O : Nat → Prop} : ∀ {l : List α} {r : List (List Value)}, RdL w O l r → r.length = l.length ∧ ∀ c ∈ r, c.length = Dat.n α
  | [], [], _ => ⟨rfl, by simp⟩
  | x :: l, c :: r, h => by
    obtain ⟨h1, h2⟩ := RdL.len h.2
    refine ⟨by rw [List.length_cons, List.length_cons, h1], fun y hy => ?_⟩
    rcases List.mem_cons.1 hy with rfl | hy
    · exact Dat.len h.1
    · exact h2 y hy
  | [], _ :: _, h => h.elim
  | _ :: _, [], h => h.elim
theorem RdL.one {α : Type} [Dat α] {w : World} {O : Nat → Prop} : ∀ {l : List α} {r : List (List Value)}, RdL w O l r → ∀ c ∈ r, ∀ u ∈ c, u.oneCell' = true
  | [], [], _ => by simp
  | x :: l, c :: r, h => by
    intro y hy
    rcases List.mem_cons.1 hy with rfl | hy
    · exact Dat.one h.1
    · exact RdL.one h.2 y hy
  | [], _ :: _, h => h.elim
  | _ :: _, [], h => h.elim
theorem RdL.take {α : Type} [Dat α] {w : World} {O : Nat → Prop} : ∀ {l : List α} {r : List (List Value)} (k : Nat), RdL w O l r → RdL w O (l.take k) (r.take k)
  | _, _, 0, _ => trivial
  | [], [], _ + 1, _ => trivial
  | _ :: _, _ :: _, k + 1, h => ⟨h.1, RdL.take k h.2⟩
  | [], _ :: _, _ + 1, h => h.elim
  | _ :: _, [], _ + 1, h => h.elim
theorem RdL.drop {α : Type} [Dat α] {w : World} {O : Nat → Prop} : ∀ {l : List α} {r : List (List Value)} (k : Nat), RdL w O l r → RdL w O (l.drop k) (r.drop k)
  | _, _, 0, h => h
  | [], [], _ + 1, _ => trivial
  | _ :: _, _ :: _, k + 1, h => RdL.drop k h.2
  | [], _ :: _, _ + 1, h => h.elim
  | _ :: _, [], _ + 1, h => h.elim
theorem RdL.app {α : Type} [Dat α] {w : World} {O : Nat → Prop} : ∀ {l m : List α} {r s : List (List Value)}, RdL w O l r → RdL w O m s → RdL w O (l ++ m) (r ++ s)
  | [], _, [], _, _, g => g
  | _ :: _, _, _ :: _, _, h, g => ⟨h.1, RdL.app h.2 g⟩
  | [], _, _ :: _, _, h, _ => h.elim
  | _ :: _, _, [], _, h, _ => h.elim
theorem RdL.keep {α : Type} [Dat α] {w w' : World} {O O' O'' : Nat → Prop} (hc : Chg O' w w') (h1 : ∀ k, k < w.heap.size → O' k → O k) (h2 : ∀ k, k < w.heap.size → O'' k → O k) : ∀ {l : List α} {r : List (List Value)}, RdL w O l r → RdL w' O'' l r
  | [], [], _ => trivial
  | _ :: _, _ :: _, h => ⟨Dat.keep h.1 hc h1 h2, RdL.keep hc h1 h2 h.2⟩
  | [], _ :: _, h => h.elim
  | _ :: _, [], h => h.elim
theorem RdL.get {α : Type} [Dat α] {w : World} {O : Nat → Prop} : ∀ {l : List α} {r : List (List Value)}, RdL w O l r → ∀ (i : Nat) (x : α), l[i]? = some x → Dat.rd w O ((r.flatten.drop (i * Dat.n α)).take (Dat.n α)) x
  | [], [], _, i, x, hx => by simp at hx
  | y :: l, c :: r, h, 0, x, hx => by
    simp only [List.getElem?_cons_zero, Option.some.injEq] at hx
    subst hx
    have e : ((c :: r).flatten.drop (0 * Dat.n α)).take (Dat.n α) = c := by
      rw [Nat.zero_mul, List.drop_zero, List.flatten_cons, ← Dat.len h.1, List.take_left]
    rw [e]; exact h.1
  | y :: l, c :: r, h, i + 1, x, hx => by
    have := RdL.get h.2 i x (by simpa using hx)
    have e : (c :: r).flatten.drop ((i + 1) * Dat.n α) = r.flatten.drop (i * Dat.n α) := by
      rw [List.flatten_cons, Nat.succ_mul, Nat.add_comm, ← List.drop_drop, ← Dat.len h.1, List.drop_left]
    rw [e]; exact this
  | [], _ :: _, h, _, _, _ => h.elim
  | _ :: _, [], h, _, _, _ => h.elim
theorem rdl_of {α : Type} [Dat α] {w : World} {O : Nat → Prop} : ∀ (l : List α) (xs : List Value), xs.length = l.length * Dat.n α → (∀ (i : Nat) (x : α), l[i]? = some x → Dat.rd w O ((xs.drop (i * Dat.n α)).take (Dat.n α)) x) → ∃ r, RdL w O l r ∧ r.flatten = xs
  | [], xs, h, _ => ⟨[], trivial, by
    have : xs = [] := List.eq_nil_of_length_eq_zero (by rw [h]; simp)
    rw [this]; rfl⟩
  | x :: l, xs, h, g => by
    obtain ⟨r, h1, h2⟩ := rdl_of l (xs.drop (Dat.n α)) (by rw [List.length_drop, h, List.length_cons, Nat.succ_mul]; omega) (fun i y hy => by
      have := g (i + 1) y (by simpa using hy)
      rw [List.drop_drop]
      rwa [show Dat.n α + i * Dat.n α = (i + 1) * Dat.n α by rw [Nat.succ_mul, Nat.add_comm]])
    have := g 0 x rfl
    rw [Nat.zero_mul, List.drop_zero] at this
    exact ⟨xs.take (Dat.n α) :: r, ⟨this, h1⟩, by rw [List.flatten_cons, h2, List.take_append_drop]⟩
theorem cells_len {q : Nat} : ∀ {r : List (List Value)}, (∀ c ∈ r, c.length = q) → r.flatten.length = r.length * q
  | [], _ => by simp
  | c :: r, h => by
    rw [List.flatten_cons, List.length_append, cells_len (r := r) (fun x hx => h x (List.mem_cons_of_mem _ hx)), h c (List.mem_cons_self ..), List.length_cons, Nat.succ_mul, Nat.add_comm]
theorem cells_take {q : Nat} : ∀ (r : List (List Value)) (k : Nat), (∀ c ∈ r, c.length = q) → r.flatten.take (k * q) = (r.take k).flatten
  | _, 0, _ => by simp
  | [], _ + 1, _ => by simp
  | c :: r, k + 1, h => by
    have e := h c (List.mem_cons_self ..)
    rw [List.take_succ_cons, List.flatten_cons, List.flatten_cons, ← cells_take r k (fun x hx => h x (List.mem_cons_of_mem _ hx)), Nat.succ_mul, Nat.add_comm, ← e, List.take_length_add_append]
theorem cells_drop {q : Nat} : ∀ (r : List (List Value)) (k : Nat), (∀ c ∈ r, c.length = q) → r.flatten.drop (k * q) = (r.drop k).flatten
  | _, 0, _ => by simp
  | [], _ + 1, _ => by simp
  | c :: r, k + 1, h => by
    have e := h c (List.mem_cons_self ..)
    rw [List.drop_succ_cons, List.flatten_cons, ← cells_drop r k (fun x hx => h x (List.mem_cons_of_mem _ hx)), Nat.succ_mul, Nat.add_comm, ← List.drop_drop, ← e, List.drop_left]

/-! ### a row's own block -/
theorem own_rows {α : Type} [Dat α] {e : TypeId} {w : World} {O : Nat → Prop} {v : Value} {l : List α} (h : Own e w O v l) (hl : 0 < l.length) :
    ∃ (g cap : Nat) (r : List (List Value)) (tail : List Value), v = .slice (some ⟨g, 0, none⟩) l.length cap ∧ w.heap[g]? = some (.cells (r.flatten ++ tail).toArray e (0, 0)) ∧ (r.flatten ++ tail).length = cap * Dat.n α ∧ l.length ≤ cap ∧ cap ≤ maxLen ∧ ¬ O g ∧ RdL w (fun k => O k ∨ k = g) l r := by
  obtain ⟨xs, hx, hO, hr⟩ := h
  rcases hx.2 with ⟨_, h0⟩ | ⟨g, cap, cur, rfl, _, hg, hle, hcm, hcs, htk⟩
  · omega
  · have hr' : ∀ (i : Nat) (x : α), l[i]? = some x → Dat.rd w (fun k => O k ∨ k = g) ((xs.drop (i * Dat.n α)).take (Dat.n α)) x := fun i x hx => Dat.keep (hr i x hx) (Chg.refl Never w) (fun _ _ h => h.elim) (fun k _ hk => hk.imp_right (fun e => by rw [e]; rfl))
    obtain ⟨r, h1, h2⟩ := rdl_of l xs hx.1 hr'
    have e : r.flatten ++ cur.toList.drop (l.length * Dat.n α) = cur.toList := by rw [h2, ← htk, List.take_append_drop]
    refine ⟨g, cap, r, cur.toList.drop (l.length * Dat.n α), rfl, by rw [e]; exact hg, by rw [e]; simpa using hcs, hle, hcm, hO g rfl, h1⟩
theorem own_laid {α : Type} [Dat α] {e : TypeId} {w : World} {O : Nat → Prop} {l : List α} {g cap : Nat} {r : List (List Value)} {tail : List Value} (hg : w.heap[g]? = some (.cells (r.flatten ++ tail).toArray e (0, 0))) (hs : (r.flatten ++ tail).length = cap * Dat.n α) (hle : l.length ≤ cap) (hcm : cap ≤ maxLen) (hO : ¬ O g)
    (hr : RdL w (fun k => O k ∨ k = g) l r) : Own e w O (.slice (some ⟨g, 0, none⟩) l.length cap) l := by
  have hl : r.flatten.length = l.length * Dat.n α := by rw [cells_len hr.len.2, hr.len.1]
  refine ⟨r.flatten, ⟨hl, .inr ⟨g, cap, _, rfl, Nat.zero_le _, hg, hle, hcm, by simpa using hs, ?_⟩⟩, ?_, ?_⟩
  · rw [← hl]; exact List.take_left
  · intro k hk
    injection hk with hk
    subst hk
    exact hO
  · intro i x hx
    exact Dat.keep (hr.get i x hx) (Chg.refl Never w) (fun _ _ h => h.elim) (fun k _ hk => hk.imp_right (fun e => by injection e with e; exact e.symm))
theorem chg_setRow (w : World) (g : Nat) (cs : Array Value) : Chg (fun k => k = g) w (w.setRow g cs) :=
  ⟨rfl, rfl, rfl, by simp [World.setRow], fun k _ hk => setRow_other w g k cs hk⟩
theorem row_cell {w : World} {g : Nat} {L : List Value} {e : TypeId} (h : w.heap[g]? = some (.cells L.toArray e (0, 0))) {j : Nat} {u : Value} (hu : L[j]? = some u) : w.cell? ⟨g, j, none⟩ = some u := by
  simp only [World.cell?, h]
  simpa using hu
/-! ### the builtins -/
theorem run_copy_at {P : Program} (w : World) {dT sT ty e : TypeId} {i : TypeInfo} (ht : P.underlying dT = some (.slice e)) (hi : P.info? e = some i) {g d dLen dCap : Nat} {a : Addr} {sLen sCap : Nat} {cs L : List Value}
    (hg : w.heap[g]? = some (.cells L.toArray e (0, 0))) (hn : cs.length = Nat.min sLen dLen * i.size) (hsrc : ∀ j u, cs[j]? = some u → w.cell? (a.add j) = some u) (hfit : d + cs.length ≤ L.length) (h1 : ∀ u ∈ cs, u.oneCell' = true) :
    (Builtin.copy_ #[dT, sT] ty #[.slice (some ⟨g, d, none⟩) dLen dCap, .slice (some a) sLen sCap]).run P w = .ok (goInt (Nat.min sLen dLen)) (w.setRow g (L.take d ++ cs ++ L.drop (d + cs.length)).toArray) := by
  have hf := run_firstCells_some (P := P) w i.size (Nat.min sLen dLen) a sLen sCap cs hn hsrc
  have hst := run_storeCells_at P g d e cs 0 L.toArray w hg (by simpa using hfit) h1
  simp only [Nat.add_zero] at hst
  simp [Builtin.copy_, run_underlying ht, Builtin.lenOf, sizeOf, typeInfo, hi, hf, hst]
theorem run_clear_at {P : Program} (w : World) {t ty e : TypeId} {z : Value} (ht : P.underlying t = some (.slice e)) (hz : ∀ w, (zeroValue e).run P w = .ok z w) {g d c : Nat} {L zs : List Value} (hzs : (Builtin.zeroCells z.cells 1).toList = zs)
    (hg : w.heap[g]? = some (.cells L.toArray e (0, 0))) (hfit : d + zs.length ≤ L.length) (h1 : ∀ u ∈ zs, u.oneCell' = true) :
    (Builtin.clear_ #[t] ty #[.slice (some ⟨g, d, none⟩) 1 c]).run P w = .ok (.tuple #[]) (w.setRow g (L.take d ++ zs ++ L.drop (d + zs.length)).toArray) := by
  have hst := run_storeCells_at P g d e zs 0 L.toArray w hg (by simpa using hfit) h1
  simp only [Nat.add_zero] at hst
  simp [Builtin.clear_, run_underlying ht, hz, hzs, hst]
theorem step_append_eq {P : Program} {ops : Array Oper} {o : Oper} {a : Act} {w : World} {K : Act → World → Prop} {Q : Exit → Act → World → Prop} {E : Prop} (hgd : o.guard = none) (s x : Operand) (t tn : TypeId)
    (ho : o.op = .call { callee := .builtin .append, args := #[s, x], argTypes := #[t, tn] }) (vs vx : Value) (hs : a.eval s = vs) (hx : a.eval x = vx) {v' : Value} {w' : World} (hr : (Builtin.append_ #[t, tn] o.type #[vs, vx]).run P w = .ok v' w') (h : K (a.put o.dst v') w') :
    if Region.wanted o (yielded ops a.tmps) = true then Oper.wp P o a w K Q else E := by
  have hw : Region.wanted o (yielded ops a.tmps) = true := by simp [Region.wanted, hgd]
  rw [if_pos hw]
  exact Lib.wp_append_run w s x t tn ho vs vx hs hx v' w' hr h
theorem wp_copy_eq {P : Program} (w : World) {o : Oper} {a : Act} {K : Act → World → Prop} {Q : Exit → Act → World → Prop} (d s : Operand) (t t' : TypeId)
    (ho : o.op = .call { callee := .builtin .copy, args := #[d, s], argTypes := #[t, t'] }) (v u : Value) (hd : a.eval d = v) (hs : a.eval s = u) {v' : Value} {w' : World}
    (hr : (Builtin.copy_ #[t, t'] o.type #[v, u]).run P w = .ok v' w') (h : K (a.put o.dst v') w') : o.wp P a w K Q := by
  unfold Oper.wp execOp
  simp only [ho, resolve, invoke, builtin, Sem.run_bind, Sem.run_pure, Result.andThen_ok, List.map_toArray, List.map_cons, List.map_nil, hd, hs, hr]
  exact h
theorem wpList_copy_eq {P : Program} (w : World) {ops : Array Oper} {rest : List Oper} {o : Oper} {a : Act} {Q : Exit → Act → World → Prop} (hgd : o.guard = none) (d s : Operand) (t t' : TypeId)
    (ho : o.op = .call { callee := .builtin .copy, args := #[d, s], argTypes := #[t, t'] }) (v u : Value) (hd : a.eval d = v) (hs : a.eval s = u) {v' : Value} {w' : World}
    (hr : (Builtin.copy_ #[t, t'] o.type #[v, u]).run P w = .ok v' w') (h : wpList P ops Q rest (a.put o.dst v') w') : wpList P ops Q (o :: rest) a w :=
  wpList_plain hgd fun _ hK => wp_copy_eq w d s t t' ho v u hd hs hr (hK _ _ h)
theorem step_copy_eq {P : Program} {ops : Array Oper} {o : Oper} {a : Act} {w : World} {K : Act → World → Prop} {Q : Exit → Act → World → Prop} {E : Prop} (hgd : o.guard = none) (d s : Operand) (t t' : TypeId)
    (ho : o.op = .call { callee := .builtin .copy, args := #[d, s], argTypes := #[t, t'] }) (v u : Value) (hd : a.eval d = v) (hs : a.eval s = u) {v' : Value} {w' : World} (hr : (Builtin.copy_ #[t, t'] o.type #[v, u]).run P w = .ok v' w') (h : K (a.put o.dst v') w') :
    if Region.wanted o (yielded ops a.tmps) = true then Oper.wp P o a w K Q else E := by
  have hw : Region.wanted o (yielded ops a.tmps) = true := by simp [Region.wanted, hgd]
  rw [if_pos hw]
  exact wp_copy_eq w d s t t' ho v u hd hs hr h
end Go.Proofs.YtmjpfoeaobdaeaaGreatDoor
namespace Go.Proofs.YtmjpfoeaobdaeaaGreatDoor
open Go.RowKit

theorem own_old {α : Type} [Dat α] {e : TypeId} {w0 w1 w2 : World} {v : Value} {l : List α} (h : Own e w2 (Old w1.heap.size) v l) (hs : w0.heap.size ≤ w1.heap.size) : Own e w2 (Old w0.heap.size) v l :=
  h.keep (Chg.refl Never w2) (fun _ _ h => h.elim) (fun _ _ hk => Nat.lt_of_lt_of_le hk hs)
set_option maxHeartbeats 1000000 in
set_option maxRecDepth 100000 in
theorem tree_get_own (t : List File) (p : ByteArray) (v : Value) (w : World) (h : Rdv w Never v t) (m : Int) (hm : w.cell? ⟨0, 0, none⟩ = some (.int .i64 m)) :
    Calls Tryz.prog 68 #[v, .string p] w fun e w' => ∃ r, e = .returned (.tuple #[r, errV (getFault t p)]) ∧ Chg Never w w' ∧ Own 9 w' (Old w.heap.size) r (getR t p) := by
  obtain ⟨a, cap, rfl, h1, h2, _⟩ := rdv_slice h
  unfold maxLen at h2
  by_cases z : atFault t p = 0
  · have Z := Lib.hid z
    by_cases zi : isAt t p = true
    · have ZI := Lib.hid zi
      have HF : Hid (getFault t p = 0) := by unfold Hid getFault; rw [if_pos z, if_pos zi]
      have HR : Hid (getR t p = linesAt t p) := if_pos HF.out
      obtain ⟨x, hx, _⟩ := isAt_get zi
      have HL : Hid (linesAt t p = x.lines) := by unfold Hid linesAt; rw [hx]; rfl
      have hlt := (List.getElem?_eq_some_iff.1 hx).1
      have hz8 := (atFault_zero z).1
      have hxl := linesFault_len (fileFault_zero ((treeFault_zero hz8).2.1 x (List.mem_of_getElem? hx))).2
      have HX := Lib.hid hx
      clear z zi hx hz8
      go_enter Tryz.func68, Tryz.ntmps68
      go_wp2_with fail
      refine (tree_at_any t p _ _ h m hm).mono ?_
      rintro e w1 ⟨rfl, hw⟩
      rw [show atPos t p = posOf t p from if_pos Z.out, show atIs t p = isAt t p from if_pos Z.out, Z.out, ZI.out, errV_zero]
      obtain ⟨_, _, hav, _, _, h3⟩ := rdv_slice (h.never hw)
      simp only [Value.slice.injEq, true_and] at hav
      obtain ⟨rfl, rfl⟩ := hav
      obtain ⟨b, off, lv, rfl, _, _, c0, c1, hps, hlv⟩ := elems_file h3 HX.out
      obtain ⟨la, lcap, rfl, _, _, _⟩ := rdv_slice hlv
      generalize posOf t p = k at hlt c0 c1 ⊢
      clear h3 c0
      go_wp2_with fail
      refine (clone_str Never x.lines _ _ hlv (by omega)).mono ?_
      rintro e w2 ⟨r2, rfl, hc2, hown2⟩
      have hr := own_old hown2 hw.size
      obtain ⟨ra, rn, rc, rfl⟩ := own_isSlice hown2
      clear hown2
      go_wp2_with fail
      go_ret2
      exact ⟨_, by rw [HF.out]; rfl, hw.trans hc2, by rw [HR.out, HL.out]; exact hr⟩
    · have ZI : Hid (isAt t p = false) := Bool.eq_false_iff.2 zi
      have HF : Hid (getFault t p = 4) := by unfold Hid getFault; rw [if_pos z, if_neg zi]
      have HR : Hid (getR t p = []) := if_neg (by rw [HF.out]; decide)
      clear z zi
      go_enter Tryz.func68, Tryz.ntmps68
      go_wp2_with fail
      refine (tree_at_any t p _ _ h m hm).mono ?_
      rintro e w1 ⟨rfl, hw⟩
      rw [show atPos t p = posOf t p from if_pos Z.out, show atIs t p = isAt t p from if_pos Z.out, Z.out, ZI.out, errV_zero]
      go_wp2_with fail
      go_ret2
      exact ⟨_, by rw [HF.out]; rfl, hw, by rw [HR.out]; exact own_nil _ _ _⟩
  · have Z := Lib.hid z
    have HF : Hid (getFault t p = atFault t p) := if_neg z
    have HR : Hid (getR t p = []) := if_neg (by rw [HF.out]; exact z)
    go_enter Tryz.func68, Tryz.ntmps68
    go_wp2_with fail
    refine (tree_at_any t p _ _ h m hm).mono ?_
    rintro e w1 ⟨rfl, hw⟩
    rw [show atPos t p = 0 from if_neg Z.out, show atIs t p = false from if_neg Z.out, errV_pos Z.out]
    clear z
    go_wp2_with fail
    go_ret2
    exact ⟨_, by rw [HF.out, errV_pos Z.out]; rfl, hw, by rw [HR.out]; exact own_nil _ _ _⟩

/-! ### run.lines -/
/-- a file that is not there has no lines -/
def linesF (t : List File) (p : ByteArray) : Int := if getFault t p = 4 then 0 else getFault t p
set_option maxHeartbeats 1000000 in
set_option maxRecDepth 100000 in
theorem rlines_any (t : List File) (p : ByteArray) (v : Value) (w : World) (h : Rdv w Never v t) (m : Int) (hm : w.cell? ⟨0, 0, none⟩ = some (.int .i64 m)) :
    Calls Tryz.prog 37 #[v, .string p] w fun e w' => ∃ r, e = .returned (.tuple #[r, errV (linesF t p)]) ∧ Chg Never w w' ∧ Own 9 w' (Old w.heap.size) r (getR t p) := by
  by_cases z : getFault t p = 4
  · have HF : Hid (linesF t p = 0) := if_pos z
    have HR : Hid (getR t p = []) := if_neg (by rw [z]; decide)
    have Z := Lib.hid z
    have t4 : (getFault t p == 4) = true := by rw [z]; rfl
    clear z
    go_enter Tryz.func37, Tryz.ntmps37
    go_wp2_with fail
    refine (tree_get_own t p _ _ h m hm).mono ?_
    rintro e w1 ⟨r, rfl, hw, hown⟩
    clear hown
    obtain ⟨E, hE⟩ : ∃ E, errV (getFault t p) = E := ⟨_, rfl⟩
    have hi : Calls Tryz.prog 69 #[E, .iface 64 (.int .i64 4)] w1 fun e w' => e = .returned (.bool true) ∧ w1 = w' := by
      have := is_none_any (getFault t p) w1
      rw [hE, t4] at this
      exact this
    rw [hE]
    clear hE t4
    go_wp2_with fail
    refine hi.mono ?_
    rintro e w2 ⟨rfl, rfl⟩
    clear hi
    go_wp2_with fail
    go_ret2
    exact ⟨_, by rw [HF.out]; rfl, hw, by rw [HR.out]; exact own_nil _ _ _⟩
  · have HF : Hid (linesF t p = getFault t p) := if_neg z
    have t4 : (getFault t p == 4) = false := beq_eq_false_iff_ne.2 z
    clear z
    go_enter Tryz.func37, Tryz.ntmps37
    go_wp2_with fail
    refine (tree_get_own t p _ _ h m hm).mono ?_
    rintro e w1 ⟨r, rfl, hw, hown⟩
    obtain ⟨ra, rn, rc, rfl⟩ := own_isSlice hown
    obtain ⟨E, hE⟩ : ∃ E, errV (getFault t p) = E := ⟨_, rfl⟩
    have hi : Calls Tryz.prog 69 #[E, .iface 64 (.int .i64 4)] w1 fun e w' => e = .returned (.bool false) ∧ w1 = w' := by
      have := is_none_any (getFault t p) w1
      rw [hE, t4] at this
      exact this
    have HE := Lib.hid hE
    rw [hE]
    clear hE t4
    go_wp2_with fail
    refine hi.mono ?_
    rintro e w2 ⟨rfl, rfl⟩
    clear hi
    go_wp2_with fail
    go_ret2
    exact ⟨_, by rw [HF.out, HE.out]; rfl, hw, hown⟩

/-! ### run.more -/
theorem path_ne4 (p : ByteArray) : pathFault p ≠ 4 := by
  unfold pathFault
  split
  · decide
  · split <;> decide
theorem at_tree {t : List File} (h : Tree t) (p : ByteArray) : atFault t p = pathFault p := by unfold atFault; rw [if_pos (tree_iff.1 h)]
theorem moreFault_bad {t : List File} (h : Tree t) {p x : ByteArray} (hp : pathFault p ≠ 0) : moreFault t p x = pathFault p := by
  unfold moreFault putFault moreFile
  rw [at_tree h, if_neg hp]
theorem linesF_tree {t : List File} (h : Tree t) (p : ByteArray) : linesF t p = pathFault p := by
  unfold linesF getFault
  rw [at_tree h]
  by_cases hp : pathFault p = 0
  · rw [if_pos hp, hp]
    cases isAt t p <;> simp
  · rw [if_neg hp, if_neg (path_ne4 p)]
theorem getR_in {t : List File} (h : Tree t) {p : ByteArray} (hp : pathFault p = 0) : getR t p = linesIn t p := getR_look h hp
theorem told_any_text {k : Int} (h : k ≠ 0) (s r : List UInt8) : toldS s k = toldS r k := by rw [told_pos h, told_pos h]
/-- what more leaves: nothing, or the new tree in the cell ⟨b, i⟩ -/
def MorePost (b i : Nat) (t : List File) (p x : ByteArray) (w : World) (e : Ending) (w' : World) : Prop :=
  e = .returned (.string (toB (toldS okW (moreFault t p x)))) ∧
    ((moreFault t p x ≠ 0 ∧ Chg Never w w') ∨ (moreFault t p x = 0 ∧ ∃ w1 r, Chg Never w w1 ∧ Rdv w1 (Old w.heap.size) r (putAt t (moreFile t p x)) ∧ Chg Never (w1.setCell ⟨b, i, none⟩ r) w'))
set_option maxHeartbeats 2000000 in
set_option maxRecDepth 100000 in
theorem rmore_any (b i : Nat) (t : List File) (p x : ByteArray) (vt : Value) (w : World) (hT : Tree t) (hcb : w.cell? ⟨b, i, none⟩ = some vt) (hfz : w.frozen? ⟨b, i, none⟩ = false) (hb9 : 9 ≤ b) (h : Rdv w Never vt t) (hp : p.size ≤ maxLen) (hx : x.size ≤ maxLen)
    (m : Int) (hm : w.cell? ⟨0, 0, none⟩ = some (.int .i64 m)) (hg : w.cell? ⟨1, 0, none⟩ = some errT) :
    Calls Tryz.prog 20 #[.pointer (some ⟨b, i, none⟩), .string p, .string x] w (MorePost b i t p x w) := by
  have hlt : b < w.heap.size := World.block_lt_of_cell? w _ hcb
  obtain ⟨a, cap, rfl, h1, h2, _⟩ := rdv_slice h
  by_cases zp : pathFault p = 0
  · have HL : Hid (linesF t p = 0) := by rw [Hid, linesF_tree hT, zp]
    have HR : Hid (getR t p = linesIn t p) := getR_in hT zp
    have hln := linesIn_len hT p
    have HP : Hid (putR t (moreFile t p x) = if moreFault t p x = 0 then putAt t (moreFile t p x) else []) := rfl
    have HM : Hid (moreFault t p x = putFault t (moreFile t p x)) := rfl
    have hmf : (moreFile t p x).path = p ∧ (moreFile t p x).lines = linesIn t p ++ [x] := ⟨rfl, rfl⟩
    clear zp
    go_enter Tryz.func20, Tryz.ntmps20
    go_wp2_with fail
    refine (rlines_any t p _ _ h m hm).mono ?_
    rintro e w1 ⟨r, rfl, hw, hown⟩
    rw [HL.out, errV_zero]
    rw [HR.out] at hown
    obtain ⟨ra, rn, rc, rfl⟩ := own_isSlice hown
    generalize hL : linesIn t p = L at hown hln hmf
    go_wp2_with fail
    have hcb1 := hw.cellNever hcb
    refine wp_region_held_drew (S := fun w' => Chg Never w w' ∧ w'.cell? ⟨b, i, none⟩ = some (.slice a t.length cap)) (by kernel_rfl) ⟨hw.drew, hcb1⟩ (fun hH => ?_)
    refine' tk 0 ?_
    refine' tk 1 ?_
    refine' tk 2 ?_
    refine' tk 3 ?_
    refine' tk 4 ?_
    refine' tk 5 ?_
    refine wpAnyH_ready (rs := [6]) (by kernel_rfl) (by simp) ?_
    refine AllReadyH.cons rfl (fun K hK => ?_) AllReadyH.nil
    go_simp
    have hA : Chg Never w (w1.drew.alloc (.cells #[.string x] 9)) := hw.drew.alloc _
    refine hK.out _ _ ⟨hA, hA.cellNever hcb⟩ (fun hH2 => ?_)
    clear hK K hH
    try simp only [Act.put, List.setIfInBounds_toArray, List.set_cons_zero, List.set_cons_succ]
    obtain ⟨va, w2, hrun, hown2, hch2, hnb⟩ := run_push (P := Tryz.prog) (t := 25) (ty := 25) (e := 9) elemOk_str (w0 := w1.drew) (O := Old w.heap.size) (y := x) (es := [.string x]) 9 (hown.never ((Chg.refl Never w1).drew)) ⟨rfl, hx⟩ (old_lt hw.drew) (by omega)
    have hw2 : Chg Never w w2 := own_step hw.drew (hown.never ((Chg.refl Never w1).drew)) hch2
    obtain ⟨wa, wn, wc, rfl⟩ := own_isSlice hown2
    refine wpAnyH_ready (rs := [7]) (by kernel_rfl) (by simp) ?_
    refine AllReadyH.cons rfl (fun K hK => ?_) AllReadyH.nil
    refine step_append_eq (by rfl) _ _ 25 25 (by rfl) _ _ (by rfl) (by rfl) hrun ?_
    refine hK.out _ _ ⟨hw2, hw2.cellNever hcb⟩ (fun hH => ?_)
    clear hK K hrun hch2 hnb hH2 hA
    try simp only [Act.put, List.setIfInBounds_toArray, List.set_cons_zero, List.set_cons_succ]
    have hf2 : Rdv w2 Never (.slice wa wn wc) (moreFile t p x).lines := by rw [hmf.2]; exact hown2.rdv.sub (fun _ _ h => h.elim)
    have ht2 := h.never hw2
    have hm2 := hw2.cellNever hm
    have HPath : Hid ((moreFile t p x).path = p) := hmf.1
    obtain ⟨F, hF⟩ : ∃ F, moreFile t p x = F := ⟨_, rfl⟩
    have HFF := Lib.hid hF
    rw [hF] at HP HM hf2 HPath hmf
    clear hL hmf hown2 hown HL HR hF
    refine' tk 8 ?_
    refine wpAnyH_ready (rs := [9]) (by kernel_rfl) (by simp) ?_
    refine AllReadyH.cons rfl (fun K hK => ?_) AllReadyH.nil
    go_simp
    (go_at_call 39; refine (show Calls Tryz.prog 39 #[.slice a t.length cap, .agg #[.string p, .slice wa wn wc]] w2 _ from (by have := tree_put_any t F _ (.slice wa wn wc) w2 ht2 hf2 (by rw [HPath.out]; exact hp) m hm2; rw [HPath.out] at this; exact this)).mono ?_; rintro e w3 ⟨r3, rfl, hc3, hr3⟩; have hw3 := hw2.trans hc3; have hS3 : Chg Never w w3 ∧ w3.cell? ⟨b, i, none⟩ = some (.slice a t.length cap) := ⟨hw3, hw3.cellNever hcb⟩; have hr3o := hr3.sub (O' := Old w.heap.size) (fun j _ hj => Nat.lt_of_lt_of_le hj hw2.size); obtain ⟨qa, qc, rfl, _, _, _⟩ := rdv_slice hr3; clear hH hc3)
    try go_wp2_with fail
    refine hK.out _ _ ?_ (fun hH => ?_)
    · assumption
    clear hK K
    try simp only [Act.put, List.setIfInBounds_toArray, List.set_cons_zero, List.set_cons_succ]
    refine' tk 10 ?_
    refine' tk 11 ?_
    refine' tk 12 ?_
    refine' tk 13 ?_
    refine' tk 14 ?_
    refine wpAnyH_done (by kernel_rfl) ?_ _
    rw [← HM.out]
    by_cases z : moreFault t p x = 0
    · have Z := Lib.hid z
      have hr4 : Rdv w3 (Old w.heap.size) (.slice qa (putR t F).length qc) (putAt t F) := by
        have e := HP.out
        rw [if_pos z] at e
        rw [← e]; exact hr3o
      generalize (putR t F).length = nn at hr4
      rw [z, errV_zero]
      have hcb3 := hw3.cellNever hcb
      have hfz3 := (hw3.frozen (p := ⟨b, i, none⟩) hlt (fun x => x)).trans hfz
      have hcs : Chg (fun k => k = b) w (w3.setCell ⟨b, i, none⟩ (.slice qa nn qc)) := Chg.setCell (O := fun k => k = b) (hw3.mono (fun _ _ h => h.elim)) (p := ⟨b, i, none⟩) (.inr rfl) _
      have hg4 := hcs.cell hg (by show ¬ 1 = b; omega)
      clear z hr3 hr3o hS3 HP HM
      go_wp2_with fail
      refine (rtold_any okW (by decide) 0 _ hg4).mono ?_
      rintro e w5 ⟨rfl, hc5⟩
      go_wp2_with fail
      go_ret
      exact ⟨by rw [Z.out]; rfl, .inr ⟨Z.out, w3, _, hw3, by rw [HFF.out]; exact hr4, hc5⟩⟩
    · have Z := Lib.hid z
      have hg4 := hw3.cellNever hg
      generalize (putR t F).length = nn
      obtain ⟨E, hE⟩ : ∃ E, errV (moreFault t p x) = E := ⟨_, rfl⟩
      have HE := Lib.hid hE
      have hi := rtold_any okW (by decide) (moreFault t p x) _ hg4
      rw [hE] at hi ⊢
      obtain ⟨T, P, rfl⟩ : ∃ T P, E = .iface T P := ⟨_, _, by rw [← hE, errV_pos z]⟩
      clear z hr3 hr3o hS3 HP HM hE
      go_wp2_with fail
      refine hi.mono ?_
      rintro e w5 ⟨rfl, hc5⟩
      go_wp2_with fail
      go_ret
      exact ⟨rfl, .inl ⟨Z.out, hw3.trans hc5⟩⟩
  · have HL : Hid (linesF t p = pathFault p) := linesF_tree hT p
    have HM : Hid (moreFault t p x = pathFault p) := moreFault_bad hT zp
    have ZP := Lib.hid zp
    clear zp
    go_enter Tryz.func20, Tryz.ntmps20
    go_wp2_with fail
    refine (rlines_any t p _ _ h m hm).mono ?_
    rintro e w1 ⟨r, rfl, hw, hown⟩
    obtain ⟨ra, rn, rc, rfl⟩ := own_isSlice hown
    rw [HL.out]
    have hi := rtold_any [] (by simp) (pathFault p) _ (hw.cellNever hg)
    obtain ⟨E, hE⟩ : ∃ E, errV (pathFault p) = E := ⟨_, rfl⟩
    rw [hE] at hi ⊢
    obtain ⟨T, P, rfl⟩ : ∃ T P, E = .iface T P := ⟨_, _, by rw [← hE, errV_pos ZP.out]⟩
    have HTT : Hid (toldS [] (pathFault p) = toldS okW (moreFault t p x)) := by rw [Hid, HM.out, told_any_text ZP.out]
    clear hown hE
    go_wp2_with fail
    refine hi.mono ?_
    rintro e w2 ⟨rfl, hc2⟩
    go_wp2_with fail
    go_ret
    exact ⟨by rw [← HTT.out]; rfl, .inl ⟨by rw [HM.out]; exact ZP.out, hw.trans hc2⟩⟩
end Go.Proofs.YtmjpfoeaobdaeaaGreatDoor
namespace Go.Proofs.YtmjpfoeaobdaeaaGreatDoor
open Go.RowKit

theorem numM_some {s : List UInt8} {n : Nat} (h : numM 4 s = some n) : Lib.decNat s = some n ∧ s.length ≤ 4 ∧ Lib.decDigits n = s := by
  unfold numM at h
  split at h
  · rename_i hl
    split at h
    · rename_i m hm
      split at h
      · rename_i hd
        injection h with h
        subst h
        exact ⟨hm, hl, hd⟩
      · cases h
    · cases h
  · cases h
theorem numM_atoi {s : List UInt8} {n : Nat} (h : numM 4 s = some n) : Lib.atoiAll s = .ok (n : Int) ∧ s.length ≤ 4 ∧ Lib.itoa n = s := by
  obtain ⟨h1, h2, h3⟩ := numM_some h
  refine ⟨?_, h2, by rw [itoa_nat, h3]⟩
  obtain ⟨hne, hd⟩ := Lib.decNat_some h1
  cases s with
  | nil => exact absurd rfl hne
  | cons c r =>
    obtain ⟨d, hc⟩ := Lib.digit_of_decFrom _ _ _ hd 0 c rfl
    have := Lib.digitVal_eq hc
    rw [Lib.atoiAll_plain c r (by omega) (by omega), Lib.signless_short (by omega), h1]
    rfl
theorem numM_small {n : Nat} (h : n < 10000) : numM 4 (Lib.decDigits n) = some n := by
  obtain ⟨h1, h2⟩ := digits_len n 3 (by omega)
  unfold numM
  rw [if_pos h1]
  have : Lib.decNat (Lib.decDigits n) = some n := by
    rw [Lib.decNat, decFrom_digits]
    cases e : Lib.decDigits n with
    | nil => exact absurd e h2
    | cons a b => rfl
  rw [this]
  exact if_pos rfl
theorem numM_of_ok {s : List UInt8} {v : Int} (h0 : 0 ≤ v) (h4 : s.length ≤ 4) (he : Lib.itoa v = s) : numM 4 s = some v.toNat := by
  obtain ⟨n, rfl⟩ : ∃ n : Nat, v = n := ⟨v.toNat, by omega⟩
  rw [itoa_nat] at he
  have hl : n < 10000 := by
    have h1 := Lib.lt_pow_nDigits n
    have h2 := Lib.decDigits_length n
    rw [he] at h2
    have : (10 : Nat) ^ Lib.nDigits n ≤ 10 ^ 4 := Nat.pow_le_pow_right (by decide) (by omega)
    omega
  rw [← he, numM_small hl]; rfl
theorem numM4_lt {s : List UInt8} {n : Nat} (h : numM 4 s = some n) : n < 10000 := by
  obtain ⟨_, h2, h3⟩ := numM_some h
  have h1 := Lib.lt_pow_nDigits n
  have h4 := Lib.decDigits_length n
  rw [h3] at h4
  have : (10 : Nat) ^ Lib.nDigits n ≤ 10 ^ 4 := Nat.pow_le_pow_right (by decide) (by omega)
  omega
/-- the panic of a number that cannot be read -/
abbrev unreadP : List PanicEntry := [{ v := .iface 51 (.agg #[]), recovered := false }]
def NumRP (s : List UInt8) (w : World) (e : Ending) (w' : World) : Prop :=
  Chg Never w w' ∧ match numM 4 s with
    | some n => e = .returned (.int .i64 n)
    | none => e = .panicked unreadP
theorem numRP_no {s : List UInt8} {w w' : World} (h : numM 4 s = none) (hc : Chg Never w w') : NumRP s w (.panicked unreadP) w' := ⟨hc, by rw [h]⟩
theorem numRP_yes {s : List UInt8} {w w' : World} {v : Int} (h : numM 4 s = some v.toNat) (h0 : 0 ≤ v) (hc : Chg Never w w') : NumRP s w (.returned (.int .i64 v)) w' := ⟨hc, by rw [h]; show Ending.returned (.int .i64 v) = .returned (.int .i64 (v.toNat : Int)); rw [Int.toNat_of_nonneg h0]⟩
set_option maxHeartbeats 1000000 in
set_option maxRecDepth 100000 in
theorem rnumber_any (s : ByteArray) (hs : s.size ≤ 1000000000) (w : World) (m : Int) (hg : Globs w m) :
    Calls Tryz.prog 42 #[.string s] w (NumRP s.data.toList w) := by
  by_cases hok : ∃ v, Lib.atoiAll s.data.toList = .ok v
  · obtain ⟨v, hv⟩ := hok
    obtain ⟨vb0, vb1⟩ := Lib.atoiAll_bounds hv
    have hno : numM 4 s.data.toList = none ∨ numM 4 s.data.toList = some v.toNat ∧ 0 ≤ v ∧ s.size ≤ 4 ∧ Lib.itoa v = s.data.toList := by
      cases hn : numM 4 s.data.toList with
      | none => exact .inl rfl
      | some n =>
        obtain ⟨q1, q2, q3⟩ := numM_atoi hn
        rw [hv] at q1
        injection q1 with q1
        subst q1
        exact .inr ⟨by simp, by omega, by rw [Lib.size_eq]; exact q2, q3⟩
    have HNO := Lib.hid hno
    have HV := Lib.hid hv
    clear hno hv
    go_enter Tryz.func42, Tryz.ntmps42
    go_wp2_with fail
    refine (Tryz.strconv_Atoi_ok s (by omega) v HV.out _).mono ?_
    rintro e w1 ⟨rfl, hW⟩
    have hc1 : Chg Never w w1 := by
      rcases hW with rfl | ⟨t, rfl⟩
      · exact Chg.refl _ _
      · exact Chg.of_below (Lib.bytesWorld_below _ _ _)
    clear hW
    by_cases v0 : v < 0
    · have hn : Hid (numM 4 s.data.toList = none) := by
        rcases HNO.out with q | q
        · exact q
        · exact absurd q.2.1 (by omega)
      have t0 : decide (v < (0 : Int)) = true := decide_eq_true v0
      clear HNO
      go_wp2_with fail
      exact ⟨rfl, numRP_no hn.out hc1⟩
    · have t0 : decide (v < (0 : Int)) = false := decide_eq_false v0
      by_cases l4 : 4 < s.size
      · have hn : Hid (numM 4 s.data.toList = none) := by
          rcases HNO.out with q | q
          · exact q
          · exact absurd q.2.2.1 (by omega)
        have t4 : decide ((4 : Int) < (s.size : Int)) = true := decide_eq_true (by omega)
        clear HNO
        go_wp2_with fail
        exact ⟨rfl, numRP_no hn.out hc1⟩
      · have t4 : decide ((4 : Int) < (s.size : Int)) = false := decide_eq_false (by omega)
        go_wp2_with fail
        refine (Tryz.strconv_Itoa v vb0 (by omega) _ (hg.never hc1).tab).mono ?_
        rintro e w2 ⟨rfl, k, os, rfl⟩
        have hc2 := hc1.trans (chg_grow w1 k os)
        by_cases he : Lib.itoa v = s.data.toList
        · have hyes := Lib.hid (numM_of_ok (by omega) (by rw [← Lib.size_eq]; omega) he)
          have ht : ((⟨(Lib.itoa v).toArray⟩ : ByteArray).toList != s.toList) = false := by rw [Lib.toList_data, Lib.toList_data, he]; simp
          have ht' : ((⟨(Lib.itoa v).toArray⟩ : ByteArray).toList == s.toList) = true := by rw [Lib.toList_data, Lib.toList_data, he]; simp
          clear he HNO
          generalize (⟨(Lib.itoa v).toArray⟩ : ByteArray) = X at ht ht' ⊢
          go_wp2_with fail
          go_ret
          exact numRP_yes hyes.out (by omega) hc2
        · have hn : Hid (numM 4 s.data.toList = none) := by
            rcases HNO.out with q | q
            · exact q
            · exact absurd q.2.2.2 he
          have ht : ((⟨(Lib.itoa v).toArray⟩ : ByteArray).toList != s.toList) = true := by rw [Lib.toList_data, Lib.toList_data]; simpa using he
          have ht' : ((⟨(Lib.itoa v).toArray⟩ : ByteArray).toList == s.toList) = false := by rw [Lib.toList_data, Lib.toList_data]; simpa using he
          clear he HNO
          generalize (⟨(Lib.itoa v).toArray⟩ : ByteArray) = X at ht ht' ⊢
          go_wp2_with fail
          exact ⟨rfl, numRP_no hn.out hc2⟩
  · have hn : Hid (numM 4 s.data.toList = none) := by
      cases hn : numM 4 s.data.toList with
      | none => rfl
      | some n => exact absurd ⟨_, (numM_atoi hn).1⟩ hok
    go_enter Tryz.func42, Tryz.ntmps42
    go_wp2_with fail
    refine (atoi_bad s hs (fun v q => hok ⟨v, q⟩) _ m hg).mono ?_
    rintro e w1 ⟨x, T, p, hx, rfl, hc1⟩
    clear hok
    go_wp2_with fail
    exact ⟨rfl, numRP_no hn.out hc1⟩
end Go.Proofs.YtmjpfoeaobdaeaaGreatDoor
