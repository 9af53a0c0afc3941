/-
  PARTS: strings.Builder's WriteString once more: which blocks it changes, to the block.; THE WALKS of api.Errno's Error, of errors.Is at an Errno and ErrNone, and of told (run and the document's).; THE WALK of (*session).diff: a range over strings.Lines.; ROWS OF A SLICE OF ITS OWN, element by element: what copy, clear, append do to one. No function of the program in sight.
-/
import Derived.Test.YtmjpfoeaobdaeaaGreatDoorRa12
import Derived.Test.YtmjpfoeaobdaeaaGreatDoorRa2
import Derived.Test.YtmjpfoeaobdaeaaGreatDoorRa1
import Derived.Test.YtmjpfoeaobdaeaaGreatDoorRa14
import Derived.Deep.RegionHeld3
import Derived.Deep.QuietTactic
import Derived.BigQuiet
import Derived.Test.YtmjpfoeaobdaeaaGreatDoorRa11
import Derived.Lib.AppendZerosOnto
set_option linter.unusedVariables false
set_option linter.unusedSimpArgs false
namespace Go.Proofs.YtmjpfoeaobdaeaaGreatDoor
open Go.RowKit

def BldV (b : Nat) (v : Value) (bs : List Value) (w : World) : Prop :=
  ∃ p, (p = .pointer none ∨ p = .pointer (some ⟨b, 0, none⟩)) ∧ w.heap[b]? = some (.cells #[p, v] 37 (0, 0)) ∧ w.ownsRowF 0 5 1 v bs.length bs ∧ v.ownBlock ≠ some b
def BldO (b : Nat) (v : Value) : Nat → Prop := fun k => k = b ∨ v.ownBlock = some k
theorem BldV.lt {b : Nat} {v : Value} {bs : List Value} {w : World} (h : BldV b v bs w) : b < w.heap.size := by
  obtain ⟨p, hp, h1, _⟩ := h
  exact (Array.getElem?_eq_some_iff.1 h1).1
theorem BldV.olt {b : Nat} {v : Value} {bs : List Value} {w : World} (h : BldV b v bs w) : ∀ k, BldO b v k → k < w.heap.size := by
  rintro k (rfl | hk)
  · exact h.lt
  · obtain ⟨p, hp, h1, h2, _⟩ := h
    exact (h2.lt k hk).2
theorem BldV.keep {b : Nat} {v : Value} {bs : List Value} {w w' : World} {O : Nat → Prop} (h : BldV b v bs w) (hc : Chg O w w') (hO : ∀ k, O k → ¬ BldO b v k) : BldV b v bs w' := by
  have hlt := h.lt
  have holt := h.olt
  obtain ⟨p, hp, h1, h2, h3⟩ := h
  refine ⟨p, hp, (hc.block b hlt (fun x => hO b x (.inl rfl))).trans h1, ?_, h3⟩
  refine ⟨h2.1, ?_⟩
  rcases h2.2 with q | ⟨g, cap, cur, fz, rfl, hb, hg, rest⟩
  · exact .inl q
  · exact .inr ⟨g, cap, cur, fz, rfl, hb, (hc.block g (holt g (.inr rfl)) (fun x => hO g x (.inr rfl))).trans hg, rest⟩
theorem BldV.new (w : World) : BldV w.heap.size (.slice none 0 0) [] (w.alloc (.cells #[.pointer none, .slice none 0 0] 37)) :=
  ⟨_, .inl rfl, heap_alloc_new _ _, World.ownsRowF_nil _ _ _ _, by simp [Value.ownBlock]⟩

theorem run_app_string {P : Program} (w : World) (t u ty e : TypeId) (i : TypeInfo) (ht : P.underlying t = some (.slice e)) (hu : P.underlying u = some .string) (hi : P.info? e = some i) (hz : i.zero = some (.int .u8 0))
    (hsize : i.size = 1) (hby : i.bytes = 1) (v : Value) (n : Nat) (xs : List Value) (hown : w.ownsRowF 0 e 1 v n xs) (s : ByteArray) (h63 : n + s.size ≤ maxLen) (hbytes : n + s.size ≤ 140737488355328) :
    ∃ v' w', (Builtin.append_ #[t, u] ty #[v, .string s]).run P w = .ok v' w' ∧ w'.ownsRowF 0 e 1 v' (n + s.size) (xs ++ Lib.strCells s) ∧ w.grownBy w' v.ownBlock ∧ (∀ k, v'.ownBlock = some k → v.ownBlock = some k ∨ w.heap.size ≤ k) := by
  obtain ⟨v', w', hr, h2, h3, _⟩ := Lib.run_append_own_stringF (P := P) w 0 t u ty e i ht hu hi hz hsize hby v n xs hown s h63 hbytes (Nat.zero_le _)
  refine ⟨v', w', hr, h2, h3, ?_⟩
  have hsmall : n + s.size ≤ 9223372036854775807 := by simp only [maxLen] at h63; omega
  have hxl : xs.length = n := by simpa using hown.1
  rcases hown.2 with ⟨rfl, rfl⟩ | ⟨g, cap, cur, fz, rfl, hbg, hg, hfz, hnc, hcm, hcs, htake⟩
  · obtain ⟨v2, w2, hr2, k2, _⟩ := Lib.run_append_own_stringF (P := P) w w.heap.size t u ty e i ht hu hi hz hsize hby (.slice none 0 0) 0 xs ⟨hown.1, .inl ⟨rfl, rfl⟩⟩ s h63 hbytes (Nat.le_refl _)
    rw [hr] at hr2
    injection hr2 with hv _
    subst hv
    exact fun k hk => .inr (k2.lt k hk).1
  · by_cases hroom : n + s.size ≤ cap
    · have hr2 := Lib.run_append_room_stringF (P := P) w t u ty e i ht hu hi hsize g n cap cur fz hg (by simpa using hfz) s hroom (by have : cur.size = cap := (by simpa using hcs); omega)
      rw [hr] at hr2
      injection hr2 with hv _
      subst hv
      exact fun k hk => .inl hk
    · have holds : ∀ j u, xs[j]? = some u → w.cell? ((⟨g, 0, none⟩ : Addr).add j) = some u := hown.cells (g := g) rfl
      have hr2 := Lib.run_append_grow_string (P := P) w t u ty e i (.int .u8 0) ht hu hi hz ⟨g, 0, none⟩ n cap xs (by rw [hsize]; simpa using hxl) holds s (by omega) (by omega) (by rw [hby]; exact growslice_fits (by omega) (by omega))
      rw [hr] at hr2
      injection hr2 with hv _
      subst hv
      intro k hk
      right
      simp only [Value.ownBlock, Option.some.injEq] at hk
      omega
theorem wpList_app_string {P : Program} {ops : Array Oper} {rest : List Oper} {o : Oper} {a : Act} {w : World} {Q : Exit → Act → World → Prop} (hgd : o.guard = none) (sl x : Operand) (t u : TypeId)
    (ho : o.op = .call { callee := .builtin .append, args := #[sl, x], argTypes := #[t, u] }) (e : TypeId) (i : TypeInfo) (ht : P.underlying t = some (.slice e)) (hu : P.underlying u = some .string) (hi : P.info? e = some i) (hz : i.zero = some (.int .u8 0))
    (hsize : i.size = 1) (hby : i.bytes = 1) (v : Value) (n : Nat) (xs : List Value) (hs : a.eval sl = v) (hown : w.ownsRowF 0 e 1 v n xs) (s : ByteArray) (hx : a.eval x = .string s) (h63 : n + s.size ≤ maxLen) (hbytes : n + s.size ≤ 140737488355328)
    (h : ∀ v' w', w'.ownsRowF 0 e 1 v' (n + s.size) (xs ++ Lib.strCells s) → w.grownBy w' v.ownBlock → (∀ k, v'.ownBlock = some k → v.ownBlock = some k ∨ w.heap.size ≤ k) → wpList P ops Q rest (a.put o.dst v') w') : wpList P ops Q (o :: rest) a w := by
  refine wpList_plain hgd fun K hK => ?_
  obtain ⟨v', w', hr, h2, h3, h4⟩ := run_app_string (P := P) w t u o.type e i ht hu hi hz hsize hby v n xs hown s h63 hbytes
  unfold Oper.wp execOp
  simp only [ho, resolve, invoke, builtin, Sem.run_bind, Sem.run_pure, Result.andThen_ok, List.map_toArray, List.map_cons, List.map_nil, hs, hx, hr]
  exact hK _ _ (h v' w' h2 h3 h4)

def BldU (b : Nat) (v : Value) (bs : List Value) (w : World) : Prop := w.heap[b]? = some (.cells #[.pointer (some ⟨b, 0, none⟩), v] 37 (0, 0)) ∧ w.ownsRowF 0 5 1 v bs.length bs ∧ v.ownBlock ≠ some b
set_option maxHeartbeats 1000000 in
set_option maxRecDepth 100000 in
theorem bldv_check (b : Nat) (v : Value) (bs : List Value) (w : World) (h : BldV b v bs w) :
    Calls Tryz.prog 17 #[.pointer (some ⟨b, 0, none⟩)] w fun e w' => e = .returned (.tuple #[]) ∧ BldU b v bs w' ∧ Chg (fun k => k = b) w w' := by
  obtain ⟨j, hj, hjs⟩ := Option.map_eq_some_iff.1 bld_info
  obtain ⟨p, hp, hb, hown, hne⟩ := h
  rcases hp with rfl | rfl
  · have hat : Lib.BuilderAtF 37 5 0 b (.pointer none) bs w := ⟨Nat.zero_le _, v, hb, hown, hne⟩
    have c0 := hat.cell0
    have hsh := hat.shape
    have hfz := hat.frozen0
    have hfin : BldU b v bs (w.setCell ⟨b, 0, none⟩ (.pointer (some ⟨b, 0, none⟩))) ∧ Chg (fun k => k = b) w (w.setCell ⟨b, 0, none⟩ (.pointer (some ⟨b, 0, none⟩))) := by
      refine ⟨⟨by simp [World.setCell, Array.getElem?_modify, hb], ?_, hne⟩, (Chg.refl (fun k => k = b) w).setCell (p := ⟨b, 0, none⟩) (.inr rfl) _⟩
      exact hown.kept (row := some b) ⟨rfl, rfl, rfl, by simp [World.setCell], fun k _ hk => Below.heap_setCell _ _ _ _ (fun e => hk (by simp [e]))⟩ (Or.inr hne)
    clear hat hb hown hne
    go_enter Tryz.func17, Tryz.ntmps17
    go_wp2_with fail
    rw [Lib.run_to_unsafe w ⟨b, 0, none⟩ Tryz.underlying34 Tryz.underlying77 hj (by rw [hjs]; decide) hsh (Nat.zero_lt_succ 1)]
    simp only [Result.andThen]
    rw [Oper.upon_value]
    go_wp2_with fail
    rw [run_callFunc_extern Tryz.func35 (by kernel_rfl) (by kernel_rfl) (by kernel_rfl) (e := Extern.AbiNoEscape.same) (by kernel_rfl)]
    rw [Lib.run_noEscape]
    simp only [Result.andThen]
    rw [Oper.upon_value]
    go_wp2_with fail
    rw [Lib.run_from_unsafe w ⟨b, 0, none⟩ Tryz.underlying77 Tryz.underlying34 hj hsh bld_lies]
    simp only [Result.andThen]
    rw [Oper.upon_value]
    go_wp2_with fail
    go_end0
    exact ⟨rfl, hfin⟩
  · have hat : Lib.BuilderAtF 37 5 0 b (.pointer (some ⟨b, 0, none⟩)) bs w := ⟨Nat.zero_le _, v, hb, hown, hne⟩
    have c0 := hat.cell0
    have hfin : BldU b v bs w := ⟨hb, hown, hne⟩
    clear hat hb hown hne
    go_enter Tryz.func17, Tryz.ntmps17
    go_wp2_with fail
    rw [Lib.run_neq_ptr_same w _ Tryz.underlying34 hj]
    go_wp2_with fail
    go_end0
    exact ⟨rfl, hfin, Chg.refl _ _⟩
def WrotePost (b : Nat) (v : Value) (bs : List Value) (s : ByteArray) (w : World) (e : Ending) (w' : World) : Prop :=
  e = .returned (.tuple #[.int .i64 s.size, .nilIface]) ∧ ∃ v', BldV b v' (bs ++ Lib.strCells s) w' ∧ Chg (BldO b v) w w' ∧ (∀ k, v'.ownBlock = some k → v.ownBlock = some k ∨ w.heap.size ≤ k)
set_option maxHeartbeats 1000000 in
set_option maxRecDepth 100000 in
theorem bldv_string (b : Nat) (v : Value) (bs : List Value) (s : ByteArray) (w : World) (h : BldV b v bs w) (hlen : bs.length + s.size ≤ 140737488355328) :
    Calls Tryz.prog 11 #[.pointer (some ⟨b, 0, none⟩), .string s] w (WrotePost b v bs s w) := by
  obtain ⟨i0, hi, hz0, hz1, hz2⟩ := info_parts bld_byte
  go_enter Tryz.func11, Tryz.ntmps11
  go_wp2_with fail
  refine (bldv_check b v bs _ h).mono ?_
  rintro e w1 ⟨rfl, ⟨hbk, hown, hne⟩, hc1⟩
  have c0 : w1.cell? ⟨b, 0, none⟩ = some (.pointer (some ⟨b, 0, none⟩)) := by rw [Lib.cell_of_heap hbk]; rfl
  have c1 : w1.cell? ⟨b, 1, none⟩ = some v := by rw [Lib.cell_of_heap hbk]; rfl
  have hlt : b < w1.heap.size := (Array.getElem?_eq_some_iff.1 hbk).1
  clear h
  go_wp2_with (at_builtin; refine wpList_app_string rfl _ _ 35 9 rfl 5 i0 Tryz.underlying35 Tryz.underlying9 hi hz0 hz1 hz2 _ _ _ rfl hown s rfl (by unfold maxLen; omega) (by omega) ?_)
  intro v' w2 hown' hgrow hnew
  have hb2 : w2.heap[b]? = some (.cells #[.pointer (some ⟨b, 0, none⟩), v] 37 (0, 0)) := (hgrow.block b hlt (fun e => hne e.symm)).trans hbk
  have d0 : w2.cell? ⟨b, 0, none⟩ = some (.pointer (some ⟨b, 0, none⟩)) := by rw [Lib.cell_of_heap hb2]; rfl
  have d1 : w2.cell? ⟨b, 1, none⟩ = some v := by rw [Lib.cell_of_heap hb2]; rfl
  have f1 : w2.frozen? ⟨b, 1, none⟩ = false := Lib.frozen_of_heap hb2 1
  have hlen2 : (bs ++ Lib.strCells s).length = bs.length + s.size := by rw [List.length_append, Lib.strCells_length]
  have hfin := Lib.BuilderAtF.put (T := 37) (e := 5) (v' := v') (Nat.zero_le b) hb2 (bs' := bs ++ Lib.strCells s) (by rw [hlen2]; exact hown') (by decide)
  have hfin1 : BldV b v' (bs ++ Lib.strCells s) (w2.setCell ⟨b, 1, none⟩ v') := by
    obtain ⟨_, u, q1, q2, q3⟩ := hfin
    have : u = v' := by
      have q4 : (w2.setCell ⟨b, 1, none⟩ v').heap[b]? = some (.cells #[.pointer (some ⟨b, 0, none⟩), v'] 37 (0, 0)) := by simp [World.setCell, Array.getElem?_modify, hb2]
      rw [q1] at q4
      injection q4 with q4
      injection q4 with q4
      simpa using q4
    subst this
    exact ⟨_, .inr rfl, q1, q2, q3⟩
  have hcg : Chg (BldO b v) w1 w2 := (Chg.of_grown hgrow).mono (fun k _ hk => .inr hk)
  have hcf : Chg (BldO b v) w (w2.setCell ⟨b, 1, none⟩ v') := ((hc1.mono (fun k _ hk => .inl hk)).trans hcg).setCell (.inr (.inl rfl)) v'
  have hnw : ∀ k, v'.ownBlock = some k → v.ownBlock = some k ∨ w.heap.size ≤ k := fun k hk => (hnew k hk).imp_right (fun q => Nat.le_trans hc1.size q)
  obtain ⟨ao, n', cap, rfl⟩ : ∃ ao n' cap, v' = .slice ao n' cap := by
    rcases hown'.2 with ⟨hv, _⟩ | ⟨g, cap, cur, fz, hv, _⟩
    · exact ⟨_, _, _, hv⟩
    · exact ⟨_, _, _, hv⟩
  clear hgrow hown hown' hbk hb2 c0 c1 hc1 hcg hfin hlen2 hnew
  go_wp2_with fail
  go_ret2
  exact ⟨rfl, _, hfin1, hcf, hnw⟩
end Go.Proofs.YtmjpfoeaobdaeaaGreatDoor
namespace Go.Proofs.YtmjpfoeaobdaeaaGreatDoor
open Go.RowKit Go.Extern.Stop Go.Stop Go.Extern

set_option maxHeartbeats 1000000 in
set_option maxRecDepth 100000 in
theorem errno_any (k : Int) (w : World) : Calls Tryz.prog 55 #[.int .i64 k] w fun e w' => e = .returned (.string (toB (errText k))) ∧ w = w' := by
  by_cases h : k = 0
  · subst h
    go_enter Tryz.func55, Tryz.ntmps55
    go_wp2_with fail
    go_ret
    exact ⟨rfl, rfl⟩
  have b0 : (k == 0) = false := beq_eq_false_iff_ne.2 h
  have g0 := Lib.hid h
  clear h
  by_cases h : k = 1
  · subst h
    go_enter Tryz.func55, Tryz.ntmps55
    go_wp2_with fail
    go_ret
    exact ⟨rfl, rfl⟩
  have b1 : (k == 1) = false := beq_eq_false_iff_ne.2 h
  have g1 := Lib.hid h
  clear h
  by_cases h : k = 2
  · subst h
    go_enter Tryz.func55, Tryz.ntmps55
    go_wp2_with fail
    go_ret
    exact ⟨rfl, rfl⟩
  have b2 : (k == 2) = false := beq_eq_false_iff_ne.2 h
  have g2 := Lib.hid h
  clear h
  by_cases h : k = 3
  · subst h
    go_enter Tryz.func55, Tryz.ntmps55
    go_wp2_with fail
    go_ret
    exact ⟨rfl, rfl⟩
  have b3 : (k == 3) = false := beq_eq_false_iff_ne.2 h
  have g3 := Lib.hid h
  clear h
  by_cases h : k = 4
  · subst h
    go_enter Tryz.func55, Tryz.ntmps55
    go_wp2_with fail
    go_ret
    exact ⟨rfl, rfl⟩
  have b4 : (k == 4) = false := beq_eq_false_iff_ne.2 h
  have g4 := Lib.hid h
  clear h
  by_cases h : k = 5
  · subst h
    go_enter Tryz.func55, Tryz.ntmps55
    go_wp2_with fail
    go_ret
    exact ⟨rfl, rfl⟩
  have b5 : (k == 5) = false := beq_eq_false_iff_ne.2 h
  have g5 := Lib.hid h
  clear h
  by_cases h : k = 6
  · subst h
    go_enter Tryz.func55, Tryz.ntmps55
    go_wp2_with fail
    go_ret
    exact ⟨rfl, rfl⟩
  have b6 : (k == 6) = false := beq_eq_false_iff_ne.2 h
  have g6 := Lib.hid h
  clear h
  have HT : Hid (toB (errText k) = ⟨#[69, 114, 114, 110, 111]⟩) := by
    unfold Hid errText
    rw [if_neg g0.out, if_neg g1.out, if_neg g2.out, if_neg g3.out, if_neg g4.out, if_neg g5.out, if_neg g6.out]
    rfl
  go_enter Tryz.func55, Tryz.ntmps55
  go_wp2_with fail
  go_ret
  exact ⟨by rw [HT.out]; rfl, rfl⟩

def cmpE : Array Value → Sem Value := ReflectliteType.method fun t => do Rtype.noPackHeld "Comparable" t; pure (.bool (← typeInfo t).comparable)
theorem is_comparable (w : World) : (cmpE #[tE]).run Tryz.prog w = .ok (.bool true) w := by kernel_rfl
theorem is_methodComparable (h : Value) (w : World) : (Go.method 391 194 (.agg #[h]) "Comparable").run Tryz.prog w = .ok (203, .agg #[h]) w := by kernel_rfl
theorem is_noIs (v : Value) (xT : TypeId) (w : World) : (Instr.typeAssert (.iface 64 v) xT 196 true).run Tryz.prog w = .ok (.tuple #[.nilIface, .bool false]) w := run_typeAssert_lacksB Tryz.underlying196 (by kernel_rfl) (by kernel_rfl) v xT w
theorem is_noUnwrap (v : Value) (xT : TypeId) (w : World) : (Instr.typeAssert (.iface 64 v) xT 199 true).run Tryz.prog w = .ok (.tuple #[.nilIface, .bool false]) w := run_typeAssert_lacksB Tryz.underlying199 (by kernel_rfl) (by kernel_rfl) v xT w
theorem is_noUnwraps (v : Value) (xT : TypeId) (w : World) : (Instr.typeAssert (.iface 64 v) xT 201 true).run Tryz.prog w = .ok (.tuple #[.nilIface, .bool false]) w := run_typeAssert_lacksB Tryz.underlying201 (by kernel_rfl) (by kernel_rfl) v xT w
theorem errno_info : (Tryz.prog.info? 64).map (·.comparable) = some true := by kernel_rfl
theorem eqlIn_errno (d : Nat) (a b : Int) (w : World) : (Op.equalIn (d + 2) 41 (.iface 64 (.int .i64 a)) (.iface 64 (.int .i64 b))).run Tryz.prog w = .ok (a == b) w := by
  obtain ⟨i, hi, hc⟩ := Option.map_eq_some_iff.1 errno_info
  simp [Op.equalIn, run_underlying Tryz.underlying41, run_underlying Tryz.underlying64, typeInfo, hi, hc]
theorem eql_errno (a b : Int) (w : World) : (binOp .eql 41 (.iface 64 (.int .i64 a)) (.iface 64 (.int .i64 b))).run Tryz.prog w = .ok (.bool (a == b)) w := by
  have h := eqlIn_errno 9998 a b w
  simp only [binOp]
  simp [Op.equal, Op.maxDepth, h]
set_option maxHeartbeats 2000000 in
set_option maxRecDepth 100000 in
theorem is_none_any (k : Int) (w : World) : Calls Tryz.prog 69 #[errV k, .iface 64 (.int .i64 4)] w fun e w' => e = .returned (.bool (k == 4)) ∧ w = w' := by
  by_cases h : k = 0
  · subst h
    rw [errV_zero]
    have hn := run_eql_iface_nil_left (P := Tryz.prog) w 64 (.int .i64 4) Tryz.underlying41
    go_enter Tryz.func69, Tryz.ntmps69
    go_wp2
    go_ret
    exact ⟨rfl, rfl⟩
  · rw [errV_pos h]
    clear h
    have h8 := @run_callFunc_extern Tryz.prog 102 _ ReflectliteType.typeOf Tryz.func102 (by kernel_rfl) (by kernel_rfl) (by kernel_rfl) (by kernel_rfl)
    have h32 := @run_callFunc_extern Tryz.prog 203 _ cmpE Tryz.func203 (by kernel_rfl) (by kernel_rfl) (by kernel_rfl) (by kernel_rfl)
    have tT := as_typeOfE
    have cT := is_comparable
    have mR := is_methodComparable
    have nE := is_noIs
    have uE := is_noUnwrap
    have vE := is_noUnwraps
    have heq := eql_errno k 4 w
    cases hk : (k == 4) with
    | true =>
      rw [hk] at heq
      clear hk
      go_enter Tryz.func69, Tryz.ntmps69
      go_wp2
      refine wp_loop_rounds 1 ?_
      rw [rounds_succ]
      go_wp2
      go_ret
      exact ⟨rfl, rfl⟩
    | false =>
      rw [hk] at heq
      clear hk
      go_enter Tryz.func69, Tryz.ntmps69
      go_wp2
      refine wp_loop_rounds 1 ?_
      rw [rounds_succ]
      go_wp2
      go_ret
      exact ⟨rfl, rfl⟩

theorem told_zero (s : List UInt8) : toldS s 0 = s ++ [10] := by unfold toldS; rw [if_pos rfl]
theorem told_pos {k : Int} (h : k ≠ 0) (s : List UInt8) : toldS s k = errText k ++ [10] := by unfold toldS; rw [if_neg h]
theorem toB_line (s : List UInt8) : toB s ++ (⟨#[10]⟩ : ByteArray) = toB (s ++ [10]) := by rw [toB_append]; rfl
theorem toB_sz (X : List UInt8) : (toB X).size = X.length := by rw [Lib.size_eq, toB_data]
theorem err_len (k : Int) : (errText k).length ≤ 10 := by
  unfold errText
  repeat' split
  all_goals decide
set_option maxHeartbeats 1000000 in
set_option maxRecDepth 100000 in
theorem rtold_any (s : List UInt8) (hs : s.length ≤ 1000000) (k : Int) (w : World) (hg : w.cell? ⟨1, 0, none⟩ = some errT) :
    Calls Tryz.prog 38 #[.string (toB s), errV k] w fun e w' => e = .returned (.string (toB (toldS s k))) ∧ Chg Never w w' := by
  by_cases h : k = 0
  · subst h
    have HT : Hid (toB s ++ (⟨#[10]⟩ : ByteArray) = toB (toldS s 0)) := by rw [Hid, told_zero, toB_line]
    have n1 : ¬ (9223372036854775807 < (toB s).size + (⟨#[10]⟩ : ByteArray).size) := by rw [toB_sz]; show ¬ (_ < s.length + 1); omega
    rw [errV_zero]
    generalize toB s = S at HT n1 ⊢
    go_enter Tryz.func38, Tryz.ntmps38
    go_wp2_with (go_at_call 70; refine (as_nil _ _).mono ?_; rintro e w' ⟨rfl, rfl⟩)
    go_ret
    exact ⟨by rw [← HT.out]; rfl, (Chg.refl Never w).alloc _⟩
  · have HT : Hid (toB (errText k) ++ (⟨#[10]⟩ : ByteArray) = toB (toldS s k)) := by rw [Hid, told_pos h, toB_line]
    have he := err_len k
    have n1 : ¬ (9223372036854775807 < (toB (errText k)).size + (⟨#[10]⟩ : ByteArray).size) := by rw [toB_sz]; show ¬ (_ < (errText k).length + 1); omega
    have hlt : 1 < w.heap.size := by
      rcases Nat.lt_or_ge 1 w.heap.size with h | h
      · exact h
      · simp [World.cell?, Array.getElem?_eq_none h] at hg
    have hgA : (w.alloc (.cells #[.int .i64 0] 64)).cell? ⟨1, 0, none⟩ = some errT := by rw [World.cell?_alloc_lt _ _ ⟨1, 0, none⟩ hlt]; exact hg
    have htA : (w.alloc (.cells #[.int .i64 0] 64)).cell? ⟨w.heap.size, 0, none⟩ = some (.int .i64 0) := by simp
    have hfA : (w.alloc (.cells #[.int .i64 0] 64)).frozen? ⟨w.heap.size, 0, none⟩ = false := by simp
    have hE := fun wx => Lib.hid (errno_any k wx)
    rw [errV_pos h]
    generalize toB (errText k) = T at HT n1 hE
    generalize toB s = S
    clear h he
    go_enter Tryz.func38, Tryz.ntmps38
    go_wp2_with (first | (go_at_call 70; refine (as_hit k _ (.int .i64 0) _ hgA htA hfA).mono ?_; rintro e w' ⟨rfl, rfl⟩) | (go_at_call 55; refine (hE _).out.mono ?_; rintro e w' ⟨rfl, rfl⟩))
    go_ret
    exact ⟨by rw [← HT.out]; rfl, (((((Chg.refl Never w).alloc _).alloc _).alloc _).alloc _).alloc _⟩
set_option maxHeartbeats 1000000 in
set_option maxRecDepth 100000 in
theorem reftold_any (s : List UInt8) (hs : s.length ≤ 1000000) (k : Int) (w : World) :
    Calls Tryz.prog 29 #[.string (toB s), .int .i64 k] w fun e w' => e = .returned (.string (toB (toldS s k))) ∧ w = w' := by
  by_cases h : k = 0
  · subst h
    have HT : Hid (toB s ++ (⟨#[10]⟩ : ByteArray) = toB (toldS s 0)) := by rw [Hid, told_zero, toB_line]
    have n1 : ¬ (9223372036854775807 < (toB s).size + (⟨#[10]⟩ : ByteArray).size) := by rw [toB_sz]; show ¬ (_ < s.length + 1); omega
    generalize toB s = S at HT n1 ⊢
    go_enter Tryz.func29, Tryz.ntmps29
    go_wp2_with fail
    go_ret
    exact ⟨by rw [← HT.out]; rfl, rfl⟩
  · have HT : Hid (toB (errText k) ++ (⟨#[10]⟩ : ByteArray) = toB (toldS s k)) := by rw [Hid, told_pos h, toB_line]
    have he := err_len k
    have n1 : ¬ (9223372036854775807 < (toB (errText k)).size + (⟨#[10]⟩ : ByteArray).size) := by rw [toB_sz]; show ¬ (_ < (errText k).length + 1); omega
    have b0 : (k == 0) = false := beq_eq_false_iff_ne.2 h
    have hE := fun wx => Lib.hid (errno_any k wx)
    generalize toB (errText k) = T at HT n1 hE
    generalize toB s = S
    clear h he
    go_enter Tryz.func29, Tryz.ntmps29
    go_wp2_with (go_at_call 55; refine (hE _).out.mono ?_; rintro e w' ⟨rfl, rfl⟩)
    go_ret
    exact ⟨by rw [← HT.out]; rfl, rfl⟩
end Go.Proofs.YtmjpfoeaobdaeaaGreatDoor
namespace Go.Proofs.YtmjpfoeaobdaeaaGreatDoor
open Go.RowKit Go.Shelf
attribute [local go_sem] Oper.semAt_some

theorem whole_text (l : List (List UInt8)) : Whole (textL l) := by
  unfold textL
  cases e : l.reverse with
  | nil =>
    have : l = [] := by simpa using e
    subst this
    exact Or.inl rfl
  | cons x r =>
    have : l = r.reverse ++ [x] := by
      have := congrArg List.reverse e
      simpa using this
    subst this
    right
    simp
theorem chg_putObj (w : World) (k : Nat) (o : Obj) : Chg (fun j => j = k) w (w.putObj k o) :=
  ⟨rfl, rfl, rfl, by simp, fun j _ hj => World.putObj_heap_other hj⟩
def blankP (l : List ByteArray) : List UInt8 := (l.map fun x => 32 :: x.data.toList).flatten
theorem blankP_snoc (l : List ByteArray) (x : ByteArray) : blankP (l ++ [x]) = blankP l ++ (32 :: x.data.toList) := by unfold blankP; simp
theorem blankP_le {l r : List ByteArray} {x : ByteArray} : (blankP l).length + x.size + 1 ≤ (blankP (l ++ x :: r)).length := by
  have : (32 :: x.data.toList).length = x.size + 1 := by rw [List.length_cons, Lib.size_eq]
  unfold blankP at *
  simp only [List.map_append, List.map_cons, List.flatten_append, List.flatten_cons, List.length_append, this]
  omega
theorem strCells_blank (x : ByteArray) : Lib.strCells ((⟨#[32]⟩ : ByteArray) ++ x) = Lib.byteCells (32 :: x.data.toList) := by
  unfold Lib.strCells Lib.byteCells
  rw [bytes_append]
  rfl
def noPanic (Q : Exit → Act → World → Prop) : Exit → Act → World → Prop
  | .panic _, _, _ => False
  | .normal, a, w => Q .normal a w
  | .ret, a, w => Q .ret a w
  | .exit i, a, w => Q (.exit i) a w
  | .goto t, a, w => Q (.goto t) a w
  | .outgrown, a, w => Q .outgrown a w
theorem noPanic_le {Q : Exit → Act → World → Prop} : ∀ (e : Exit) (a : Act) (w : World), noPanic Q e a w → Q e a w
  | .panic _, _, _, h => h.elim
  | .normal, _, _, h => h
  | .ret, _, _, h => h
  | .exit _, _, _, h => h
  | .goto _, _, _, h => h
  | .outgrown, _, _, h => h
def RoundI (w0 : World) (B bB : Nat) (pre : List ByteArray) (W : World) : Prop :=
  ∃ v, BldV bB v (Lib.byteCells (blankP pre)) W ∧ Chg Never w0 W ∧ (∀ k, v.ownBlock = some k → B < k) ∧ w0.heap.size ≤ bB ∧ bB < B ∧ B < W.heap.size
theorem BldV.cells {b : Nat} {v : Value} {bs : List Value} {w : World} (h : BldV b v bs w) {k : Nat} (hk : BldO b v k) {o : Obj} (ho : w.heap[k]? = some o) : o.isCells = true := by
  obtain ⟨p, hp, h1, h2, _⟩ := h
  rcases hk with rfl | hk
  · rw [h1] at ho
    injection ho with ho
    subst ho; rfl
  · rcases h2.2 with ⟨rfl, _⟩ | ⟨g, cap, cur, fz, rfl, hb, hg, rest⟩
    · cases hk
    · injection hk with hk
      subst hk
      rw [hg] at ho
      injection ho with ho
      subst ho; rfl
theorem round_put {w0 : World} {B bB : Nat} {pre : List ByteArray} {W : World} {k : Nat} {o o' : Obj} (hk : w0.heap.size ≤ k) (ho : W.heap[k]? = some o) (hc : o.isCells = false) (h : RoundI w0 B bB pre W) : RoundI w0 B bB pre (W.putObj k o') := by
  obtain ⟨v, h1, h2, h3, h4, h5, h6⟩ := h
  refine ⟨v, h1.keep (chg_putObj W k o') (fun j hj hh => ?_), h2.trans' (chg_putObj W k o') (fun j hj hh => absurd hj (by omega)), h3, h4, h5, by simpa using h6⟩
  subst hj
  have := h1.cells hh ho
  rw [hc] at this; cases this
theorem round_notO {w0 : World} {B bB : Nat} {v : Value} (h3 : ∀ k, v.ownBlock = some k → B < k) (hb : bB < B) : ¬ BldO bB v B := by
  rintro (h | h)
  · omega
  · exact absurd (h3 B h) (Nat.lt_irrefl _)
theorem round_set {w0 : World} {B bB : Nat} {pre : List ByteArray} {W : World} (u : Value) (h : RoundI w0 B bB pre W) : RoundI w0 B bB pre (W.setCell ⟨B, 0, none⟩ u) := by
  obtain ⟨v, h1, h2, h3, h4, h5, h6⟩ := h
  have hc : Chg (fun j => j = B) W (W.setCell ⟨B, 0, none⟩ u) := Chg.setCell (O := fun j => j = B) (Chg.refl _ W) (p := ⟨B, 0, none⟩) (.inr rfl) u
  refine ⟨v, h1.keep hc (fun j hj hh => ?_), h2.trans' hc (fun j hj hh => absurd hj (by omega)), h3, h4, h5, Nat.lt_of_lt_of_le h6 hc.size⟩
  subst hj
  exact round_notO (w0 := w0) h3 h5 hh
theorem round_drew {w0 : World} {B bB : Nat} {pre : List ByteArray} {W : World} (h : RoundI w0 B bB pre W) : RoundI w0 B bB pre W.drew := by
  obtain ⟨v, h1, h2, h3, h4⟩ := h
  exact ⟨v, h1.keep (O := Never) ((Chg.refl _ W).drew) (fun _ h => h.elim), h2.drew, h3, h4⟩
theorem round_new {w0 w2 wl : World} (hc : Chg Never w0 w2) (hwl : Chg Never (w2.alloc (.cells #[.pointer none, .slice none 0 0] 37)) wl) (hl : w2.heap.size + 1 < wl.heap.size) : RoundI w0 (w2.heap.size + 1) w2.heap.size [] wl :=
  ⟨.slice none 0 0, (BldV.new w2).keep hwl (fun _ h => h.elim), (hc.alloc _).trans hwl, fun k hk => by simp [Value.ownBlock] at hk, hc.size, Nat.lt_succ_self _, hl⟩
theorem round_end {w0 : World} {D B bB : Nat} {pre : List ByteArray} {x : ByteArray} {W W' : World} {v v' : Value} (h1 : BldV bB v (Lib.byteCells (blankP pre)) W) (h2 : Chg Never w0 W) (h3 : ∀ k, v.ownBlock = some k → B < k) (h4 : w0.heap.size ≤ bB) (h5 : bB < B) (hB : B < W.heap.size)
    (g1 : BldV bB v' (Lib.byteCells (blankP pre) ++ Lib.strCells ((⟨#[32]⟩ : ByteArray) ++ x)) W') (g2 : Chg (BldO bB v) W W') (g3 : ∀ k, v'.ownBlock = some k → v.ownBlock = some k ∨ W.heap.size ≤ k) :
    KeepsFrom D W W' ∧ CellKept B W W' ∧ RoundI w0 B bB (pre ++ [x]) W' := by
  refine ⟨⟨g2.size, fun k o _ ho hc => ?_⟩, CellKept.of_block (g2.block B hB (round_notO (w0 := w0) h3 h5)), v', ?_, h2.trans' g2 ?_, ?_, h4, h5, Nat.lt_of_lt_of_le hB g2.size⟩
  · rw [g2.block k (Array.getElem?_eq_some_iff.1 ho).1 (fun hh => by have := h1.cells hh ho; rw [hc] at this; cases this)]
    exact ho
  · rw [blankP_snoc, Lib.byteCells_append, ← strCells_blank]; exact g1
  · rintro i hi (hh | hh)
    · omega
    · have := h3 i hh; omega
  · intro k hk
    rcases g3 k hk with q | q
    · exact h3 k q
    · omega
theorem BldV.isBB {base b : Nat} {v : Value} {bs : List Value} {w : World} (h : BldV b v bs w) (hb : ∀ k, BldO b v k → base ≤ k) : IsB base b bs w := by
  obtain ⟨p, hp, h1, h2, h3⟩ := h
  have h2' : w.ownsRowF base 5 1 v bs.length bs := by
    refine ⟨h2.1, ?_⟩
    rcases h2.2 with q | ⟨g, cap, cur, fz, rfl, _, rest⟩
    · exact .inl q
    · exact .inr ⟨g, cap, cur, fz, rfl, hb g (.inr rfl), rest⟩
  rcases hp with rfl | rfl
  · exact .inl ⟨hb b (.inl rfl), v, h1, h2', h3⟩
  · exact .inr ⟨hb b (.inl rfl), v, h1, h2', h3⟩
set_option maxHeartbeats 1000000 in
theorem lines_any (s : ByteArray) (w : World) : Calls Tryz.prog 76 #[.string s] w fun e w' => e = .returned (.func (.func 112) #[] #[.pointer (some ⟨w.heap.size, 0, none⟩)]) ∧ w' = w.alloc (.cells #[.string s] 9) := by
  have hmf : ∀ (fn : Fn) (first cap : Array Value) (w : World), (Instr.makeFunc fn first cap).run Tryz.prog w = .ok (.func fn first cap) w := fun _ _ _ _ => rfl
  go_enter Tryz.func76, Tryz.ntmps76
  go_wp2_with fail
  go_ret
  exact ⟨rfl, rfl⟩
set_option maxHeartbeats 4000000 in
set_option maxRecDepth 100000 in
theorem rdiff_ok (b : Nat) (m : Ses) (n : Nat) (hn : n ≤ 1000) (w : World) (vo vn : Value) (hb : Blk2 w b 33 vo vn) (ho : Rdv w Never vo m.old) (hw : Rdv w Never vn m.new) (hok : SesOk m) (mx : Int) (hg : w.cell? ⟨0, 0, none⟩ = some (.int .i64 mx)) :
    Calls Tryz.prog 41 #[.pointer (some ⟨b, 0, none⟩), .int .i64 n] w fun e w' => e = .returned (.string (toB (diffS m n))) ∧ Chg Never w w' := by
  obtain ⟨c0, c1⟩ := hb.cell
  have hlt := hb.lt
  have HD : Hid (diffFault m.old m.new (n : Int) = 0) := diffFault_0 (tree_iff.1 hok.1) (tree_iff.1 hok.2) (by omega) (by omega)
  have HDR : Hid (diffR m.old m.new (n : Int) = diffL n m.old m.new) := diffR_ok HD.out
  have HPF : Hid (patchFault (diffL n m.old m.new) = (0, 0)) := patch_ok (diff_leads hok.1 hok.2 (n := (n : Int)) (by omega) (by omega)).1
  have HG : Hid (gitR (diffL n m.old m.new) = toB (textG (diffL n m.old m.new))) := if_pos (by rw [HPF.out])
  have HT : Hid (diffS m n = blankL (textG (diffL n m.old m.new)) ++ okL) := if_pos hn
  have htl := diff_text_len hok hn
  have hwt : Whole (textG (diffL n m.old m.new)) := whole_text _
  have hI : I64 (n : Int) := ⟨by omega, by omega⟩
  obtain ⟨oa, oc, rfl, _, _, _⟩ := rdv_slice ho
  obtain ⟨na, nc, rfl, _, _, _⟩ := rdv_slice hw
  refine (callsIn_wide (n := 4)).1 ?_
  refine callsIn_of_wp_marks Tryz.func41 rfl trivial ?_ rfl
  simp only [Tryz.ntmps41, List.size_toArray, List.length_cons, List.length_nil, Nat.reduceAdd, Nat.reduceSub, Array.replicate_succ, Array.replicate_zero, List.push_toArray, List.append_toArray, List.nil_append, List.cons_append]
  refine wpIn_mono (Q := noPanic (bodyPostM Fence.wide 4 Tryz.prog Tryz.f41 _)) ?_ noPanic_le
  have hmx : Tryz.prog.follows .mixedOrders = true := by kernel_rfl
  gi_wp2_with fail
  have hcd : Chg Never w w.drew := (Chg.refl Never w).drew
  have hod := ho.never hcd
  have hwd := hw.never hcd
  gi_region_with_o (refine ⟨trivial, ?_⟩; gi_at_call 45; refine (callsIn_wide.2 (diff_old m.old m.new n _ _ _ hod hwd hI mx hg)).mono ?_; rintro e w1 ⟨r1, rfl, hc1, hr1⟩; rw [HD.out, errV_zero]; rw [HDR.out] at hr1; obtain ⟨ra, rc, rfl, _, _, _⟩ := rdv_slice hr1)
  all_goals
    have hw1 := hcd.trans hc1
    gi_wp2_with (refine ⟨trivial, ?_⟩; gi_at_call 75; refine (callsIn_wide.2 (gitprint_any (diffL n m.old m.new) _ _ (hr1.sub (fun _ _ h => h.elim)) mx (hw1.cellNever hg))).mono ?_; rintro e w2 ⟨rfl, hc2⟩; rw [HG.out, HPF.out, errV_zero])
    have hw2 := hw1.trans hc2
    generalize hT0 : textG (diffL n m.old m.new) = T at HT htl hwt
    clear HG HPF HDR HD hr1 hc1 hc2 hod hwd ho hw
    gi_wp2_with (refine ⟨trivial, ?_⟩; gi_at_call 76; refine (callsIn_wide.2 (lines_any (toB T) _)).mono ?_; rintro e w3 ⟨rfl, rfl⟩)
    obtain ⟨wl, hwl⟩ : ∃ wl, (w2.alloc (.cells #[.pointer none, .slice none 0 0] 37)).alloc (.cells #[.string (toB T)] 9) = wl := ⟨_, rfl⟩
    have hcl : Chg Never (w2.alloc (.cells #[.pointer none, .slice none 0 0] 37)) wl := by rw [← hwl]; exact (Chg.refl _ _).alloc _
    have hls : wl.heap.size = w2.heap.size + 2 := by rw [← hwl]; simp
    have hws := hw2.size
    have hnw := heap_alloc_new (w2.alloc (.cells #[.pointer none, .slice none 0 0] 37)) (.cells #[.string (toB T)] 9)
    rw [World.size_alloc, hwl] at hnw
    have hBc : wl.cell? ⟨w2.heap.size + 1, 0, none⟩ = some (.string (toB T)) := by simp only [World.cell?, hnw]; rfl
    have hBf : wl.frozen? ⟨w2.heap.size + 1, 0, none⟩ = false := by simp only [World.frozen?, hnw]; rfl
    have hbl := blank_len T
    have HCH : Hid (blankP (chunksL T) = blankL T) := chunks_blank T
    rw [hwl]
    clear hwl
    refine' wpIn_rangeFunc_gives (by decide) (gf := 112) (lb := #[.pointer (some ⟨w2.heap.size + 1, 0, none⟩)]) rfl (enters_of Tryz.func112 (by kernel_rfl) rfl)
      (lines_gives (4 - 1) (by decide) T hwt (by omega) (w2.heap.size + 1) wl hBc hBf) (by omega) rfl
      (RoundI w (w2.heap.size + 1) w2.heap.size) (fun pre W k o o' hk ho hc h => round_put (by omega) ho hc h) (fun pre W u h => round_set u h) (fun pre W h => round_drew h) (fun o1 o2 => round_new hw2 ((hcl.alloc o1).alloc o2) (by simp; omega)) _ ?assign ?body ?done
    case assign =>
      intro l x W K hK
      gi_wp2
      exact hK
    case body =>
      rintro l pre x W ⟨v, h1, h2, h3, h4, h5, hlt2⟩ ⟨r, hr⟩
      have hle := blankP_le (l := pre) (r := r) (x := x)
      rw [← hr, HCH.out] at hle
      have hB9 : (Lib.byteCells (blankP pre)).length + ((⟨#[32]⟩ : ByteArray) ++ x).size ≤ 140737488355328 := by rw [Lib.byteCells_length, ByteArray.size_append]; show _ + (1 + x.size) ≤ _; omega
      have n1 : ¬ (9223372036854775807 < (⟨#[32]⟩ : ByteArray).size + x.size) := by show ¬ (_ < 1 + x.size); omega
      gi_wp2_with (refine ⟨trivial, ?_⟩; gi_at_call 11; refine (CallsIn.inRound l (callsIn_wide.2 (bldv_string w2.heap.size v _ ((⟨#[32]⟩ : ByteArray) ++ x) W h1 hB9))).mono ?_; rintro e W' ⟨rfl, v', g1, g2, g3⟩)
      exact round_end h1 h2 h3 h4 h5 hlt2 g1 g2 g3
    case done =>
      rintro D W hD ⟨v, h1, h2, h3, h4, h5, h6⟩ hK
      rw [HCH.out] at h1
      have hI0 := h1.isBB (base := w.heap.size) (fun k hk => hk.elim (fun q => by omega) (fun q => by have := h3 k q; omega))
      have n1 : ¬ (9223372036854775807 < (toB (blankL T)).size + (⟨#[111, 107, 10]⟩ : ByteArray).size) := by rw [toB_sz]; show ¬ (_ < (blankL T).length + 3); omega
      have HO : Hid (toB (blankL T) ++ (⟨#[111, 107, 10]⟩ : ByteArray) = toB (diffS m n)) := by rw [Hid, HT.out, toB_append]; rfl
      have hSS := Lib.hid (Tryz.Builder_String_any_k w.heap.size w2.heap.size (blankL T) W hI0 (h2.size))
      generalize hX : toB (blankL T) = X at n1 HO
      gi_wp2_with (refine ⟨trivial, ?_⟩; gi_at_call 13; refine (callsIn_wide.2 hSS.out).mono ?_; rintro e W' ⟨rfl, _, hb4, hok4⟩; rw [show (⟨(blankL T).toArray⟩ : ByteArray) = X from hX])
      have hK4 : W'.heap[D]? = some (.deferred (some [])) := hok4 D _ hK (fun e => by injection e with e; omega) (fun c fz e => by cases e)
      have hcW : Chg Never w W' := Chg.of_below (h2.never.trans hb4)
      refine ⟨by simp, .inl ⟨_, _, rfl, run_takeDeferred hK4, ?_⟩⟩
      exact ⟨_, results_tmp rfl _ _ _, by rw [← HO.out]; rfl, hcW.trans' (chg_putObj W' D _) (fun j hj hh => by omega)⟩
set_option maxHeartbeats 2000000 in
set_option maxRecDepth 100000 in
theorem rdiff_bad (b : Nat) (m : Ses) (n : Nat) (hn : ¬ n ≤ 1000) (hn9 : n < 10000) (w : World) (vo vn : Value) (hb : Blk2 w b 33 vo vn) (ho : Rdv w Never vo m.old) (hw : Rdv w Never vn m.new) (hok : SesOk m) (mx : Int) (hg : w.cell? ⟨0, 0, none⟩ = some (.int .i64 mx)) (he : w.cell? ⟨1, 0, none⟩ = some errT) :
    Calls Tryz.prog 41 #[.pointer (some ⟨b, 0, none⟩), .int .i64 n] w fun e w' => e = .returned (.string (toB (diffS m n))) ∧ Chg Never w w' := by
  obtain ⟨c0, c1⟩ := hb.cell
  have HD : Hid (diffFault m.old m.new (n : Int) = 1) := diffFault_n (tree_iff.1 hok.1) (tree_iff.1 hok.2) (Or.inr (by omega))
  have HT : Hid (diffS m n = toldS [] 1) := if_neg hn
  have hI : I64 (n : Int) := ⟨by omega, by omega⟩
  obtain ⟨oa, oc, rfl, _, _, _⟩ := rdv_slice ho
  obtain ⟨na, nc, rfl, _, _, _⟩ := rdv_slice hw
  have hcd : Chg Never w w.drew := (Chg.refl Never w).drew
  have hod := ho.never hcd
  have hwd := hw.never hcd
  clear hn
  go_enter Tryz.func41, Tryz.ntmps41
  go_wp2_with fail
  refine wp_region_held_drew (S := fun w' => Chg Never w w' ∧ w'.cell? ⟨b, 0, none⟩ = some (.slice oa m.old.length oc) ∧ w'.cell? ⟨b, 1, none⟩ = some (.slice na m.new.length nc)) (by kernel_rfl) ⟨hcd, c0, c1⟩ (fun hH => ?_)
  refine' tk 0 ?_
  refine' tk 1 ?_
  refine' tk 2 ?_
  refine' tk 3 ?_
  refine' tk 4 ?_
  refine' tk 5 ?_
  refine' tk 6 ?_
  refine' tk 7 ?_
  refine' tk 8 ?_
  refine' tk 9 ?_
  refine' tk 10 ?_
  refine wpAnyH_ready (rs := [11]) (by kernel_rfl) (by simp) ?_
  refine AllReadyH.cons rfl (fun K hK => ?_) AllReadyH.nil
  go_simp
  (go_at_call 45; refine (diff_old m.old m.new n _ _ _ hod hwd hI mx hg).mono ?_; rintro e w1 ⟨r1, rfl, hc1, hr1⟩; rw [HD.out, errV_pos (by decide)]; obtain ⟨ra, rc, rfl, _, _, _⟩ := rdv_slice hr1; have hw1 := hcd.trans hc1; have hS2 : Chg Never w w1 ∧ w1.cell? ⟨b, 0, none⟩ = some (.slice oa m.old.length oc) ∧ w1.cell? ⟨b, 1, none⟩ = some (.slice na m.new.length nc) := ⟨hw1, hw1.cellNever c0, hw1.cellNever c1⟩; clear hr1 hH)
  try go_wp2_with fail
  refine hK.out _ _ ?_ (fun hH => ?_)
  · assumption
  clear hK K
  try simp only [Act.put, List.setIfInBounds_toArray, List.set_cons_zero, List.set_cons_succ]
  refine' tk 12 ?_
  refine' tk 13 ?_
  refine' tk 14 ?_
  refine' tk 15 ?_
  refine' tk 16 ?_
  refine wpAnyH_done (by kernel_rfl) ?_ _
  have hi := rtold_any [] (by simp) 1 _ (hH.1.cellNever he)
  rw [errV_pos (by decide)] at hi
  go_wp2_with fail
  refine hi.mono ?_
  rintro e w2 ⟨rfl, hc2⟩
  go_wp2_with fail
  go_ret
  exact ⟨by rw [HT.out]; rfl, hH.1.trans hc2⟩
theorem rdiff_any (b : Nat) (m : Ses) (n : Nat) (hn9 : n < 10000) (w : World) (vo vn : Value) (hb : Blk2 w b 33 vo vn) (ho : Rdv w Never vo m.old) (hw : Rdv w Never vn m.new) (hok : SesOk m) (mx : Int) (hg : w.cell? ⟨0, 0, none⟩ = some (.int .i64 mx)) (he : w.cell? ⟨1, 0, none⟩ = some errT) :
    Calls Tryz.prog 41 #[.pointer (some ⟨b, 0, none⟩), .int .i64 n] w fun e w' => e = .returned (.string (toB (diffS m n))) ∧ Chg Never w w' := by
  by_cases hn : n ≤ 1000
  · exact rdiff_ok b m n hn w vo vn hb ho hw hok mx hg
  · exact rdiff_bad b m n hn hn9 w vo vn hb ho hw hok mx hg he
end Go.Proofs.YtmjpfoeaobdaeaaGreatDoor
namespace Go.Proofs.YtmjpfoeaobdaeaaGreatDoor
open Go.RowKit

def RdL {α : Type} [Dat α] (w : World) (O : Nat → Prop) : List α → List (List Value) → Prop
  | [], [] => True
  | x :: l, c :: r => Dat.rd w O c x ∧ RdL w O l r
  | _, _ => False
theorem RdL.len {α : Type} [Dat α] {w : World} {O : Nat → Prop} : ∀ {l : List α} {r : List (List Value)}, RdL w O l r → r.length = l.length ∧ ∀ c ∈ r, c.length = Dat.n α
  | [], [], _ => ⟨rfl, by simp⟩
  | x :: l, c :: r, h => by
    obtain ⟨h1, h2⟩ := RdL.len h.2
    refine ⟨by rw [List.length_cons, List.length_cons, h1], fun y hy => ?_⟩
    rcases List.mem_cons.1 hy with rfl | hy
    · exact Dat.len h.1
    · exact h2 y hy
  | [], _ :: _, h => h.elim
  | _ :: _, [], h => h.elim
theorem RdL.one {α : Type} [Dat α] {w : World} {O : Nat → Prop} : ∀ {l : List α} {r : List (List Value)}, RdL w O l r → ∀ c ∈ r, ∀ u ∈ c, u.oneCell' = true
  | [], [], _ => by simp
  | x :: l, c :: r, h => by
    intro y hy
    rcases List.mem_cons.1 hy with rfl | hy
    · exact Dat.one h.1
    · exact RdL.one h.2 y hy
  | [], _ :: _, h => h.elim
  | _ :: _, [], h => h.elim
theorem RdL.take {α : Type} [Dat α] {w : World} {O : Nat → Prop} : ∀ {l : List α} {r : List (List Value)} (k : Nat), RdL w O l r → RdL w O (l.take k) (r.take k)
  | _, _, 0, _ => trivial
  | [], [], _ + 1, _ => trivial
  | _ :: _, _ :: _, k + 1, h => ⟨h.1, RdL.take k h.2⟩
  | [], _ :: _, _ + 1, h => h.elim
  | _ :: _, [], _ + 1, h => h.elim
theorem RdL.drop {α : Type} [Dat α] {w : World} {O : Nat → Prop} : ∀ {l : List α} {r : List (List Value)} (k : Nat), RdL w O l r → RdL w O (l.drop k) (r.drop k)
  | _, _, 0, h => h
  | [], [], _ + 1, _ => trivial
  | _ :: _, _ :: _, k + 1, h => RdL.drop k h.2
  | [], _ :: _, _ + 1, h => h.elim
  | _ :: _, [], _ + 1, h => h.elim
theorem RdL.app {α : Type} [Dat α] {w : World} {O : Nat → Prop} : ∀ {l m : List α} {r s : List (List Value)}, RdL w O l r → RdL w O m s → RdL w O (l ++ m) (r ++ s)
  | [], _, [], _, _, g => g
  | _ :: _, _, _ :: _, _, h, g => ⟨h.1, RdL.app h.2 g⟩
  | [], _, _ :: _, _, h, _ => h.elim
  | _ :: _, _, [], _, h, _ => h.elim
theorem RdL.keep {α : Type} [Dat α] {w w' : World} {O O' O'' : Nat → Prop} (hc : Chg O' w w') (h1 : ∀ k, k < w.heap.size → O' k → O k) (h2 : ∀ k, k < w.heap.size → O'' k → O k) : ∀ {l : List α} {r : List (List Value)}, RdL w O l r → RdL w' O'' l r
  | [], [], _ => trivial
  | _ :: _, _ :: _, h => ⟨Dat.keep h.1 hc h1 h2, RdL.keep hc h1 h2 h.2⟩
  | [], _ :: _, h => h.elim
  | _ :: _, [], h => h.elim
theorem RdL.get {α : Type} [Dat α] {w : World} {O : Nat → Prop} : ∀ {l : List α} {r : List (List Value)}, RdL w O l r → ∀ (i : Nat) (x : α), l[i]? = some x → Dat.rd w O ((r.flatten.drop (i * Dat.n α)).take (Dat.n α)) x
  | [], [], _, i, x, hx => by simp at hx
  | y :: l, c :: r, h, 0, x, hx => by
    simp only [List.getElem?_cons_zero, Option.some.injEq] at hx
    subst hx
    have e : ((c :: r).flatten.drop (0 * Dat.n α)).take (Dat.n α) = c := by
      rw [Nat.zero_mul, List.drop_zero, List.flatten_cons, ← Dat.len h.1, List.take_left]
    rw [e]; exact h.1
  | y :: l, c :: r, h, i + 1, x, hx => by
    have := RdL.get h.2 i x (by simpa using hx)
    have e : (c :: r).flatten.drop ((i + 1) * Dat.n α) = r.flatten.drop (i * Dat.n α) := by
      rw [List.flatten_cons, Nat.succ_mul, Nat.add_comm, ← List.drop_drop, ← Dat.len h.1, List.drop_left]
    rw [e]; exact this
  | [], _ :: _, h, _, _, _ => h.elim
  | _ :: _, [], h, _, _, _ => h.elim
theorem rdl_of {α : Type} [Dat α] {w : World} {O : Nat → Prop} : ∀ (l : List α) (xs : List Value), xs.length = l.length * Dat.n α → (∀ (i : Nat) (x : α), l[i]? = some x → Dat.rd w O ((xs.drop (i * Dat.n α)).take (Dat.n α)) x) → ∃ r, RdL w O l r ∧ r.flatten = xs
  | [], xs, h, _ => ⟨[], trivial, by
    have : xs = [] := List.eq_nil_of_length_eq_zero (by rw [h]; simp)
    rw [this]; rfl⟩
  | x :: l, xs, h, g => by
    obtain ⟨r, h1, h2⟩ := rdl_of l (xs.drop (Dat.n α)) (by rw [List.length_drop, h, List.length_cons, Nat.succ_mul]; omega) (fun i y hy => by
      have := g (i + 1) y (by simpa using hy)
      rw [List.drop_drop]
      rwa [show Dat.n α + i * Dat.n α = (i + 1) * Dat.n α by rw [Nat.succ_mul, Nat.add_comm]])
    have := g 0 x rfl
    rw [Nat.zero_mul, List.drop_zero] at this
    exact ⟨xs.take (Dat.n α) :: r, ⟨this, h1⟩, by rw [List.flatten_cons, h2, List.take_append_drop]⟩
theorem cells_len {q : Nat} : ∀ {r : List (List Value)}, (∀ c ∈ r, c.length = q) → r.flatten.length = r.length * q
  | [], _ => by simp
  | c :: r, h => by
    rw [List.flatten_cons, List.length_append, cells_len (r := r) (fun x hx => h x (List.mem_cons_of_mem _ hx)), h c (List.mem_cons_self ..), List.length_cons, Nat.succ_mul, Nat.add_comm]
theorem cells_take {q : Nat} : ∀ (r : List (List Value)) (k : Nat), (∀ c ∈ r, c.length = q) → r.flatten.take (k * q) = (r.take k).flatten
  | _, 0, _ => by simp
  | [], _ + 1, _ => by simp
  | c :: r, k + 1, h => by
    have e := h c (List.mem_cons_self ..)
    rw [List.take_succ_cons, List.flatten_cons, List.flatten_cons, ← cells_take r k (fun x hx => h x (List.mem_cons_of_mem _ hx)), Nat.succ_mul, Nat.add_comm, ← e, List.take_length_add_append]
theorem cells_drop {q : Nat} : ∀ (r : List (List Value)) (k : Nat), (∀ c ∈ r, c.length = q) → r.flatten.drop (k * q) = (r.drop k).flatten
  | _, 0, _ => by simp
  | [], _ + 1, _ => by simp
  | c :: r, k + 1, h => by
    have e := h c (List.mem_cons_self ..)
    rw [List.drop_succ_cons, List.flatten_cons, ← cells_drop r k (fun x hx => h x (List.mem_cons_of_mem _ hx)), Nat.succ_mul, Nat.add_comm, ← List.drop_drop, ← e, List.drop_left]

theorem own_rows {α : Type} [Dat α] {e : TypeId} {w : World} {O : Nat → Prop} {v : Value} {l : List α} (h : Own e w O v l) (hl : 0 < l.length) :
    ∃ (g cap : Nat) (r : List (List Value)) (tail : List Value), v = .slice (some ⟨g, 0, none⟩) l.length cap ∧ w.heap[g]? = some (.cells (r.flatten ++ tail).toArray e (0, 0)) ∧ (r.flatten ++ tail).length = cap * Dat.n α ∧ l.length ≤ cap ∧ cap ≤ maxLen ∧ ¬ O g ∧ RdL w (fun k => O k ∨ k = g) l r := by
  obtain ⟨xs, hx, hO, hr⟩ := h
  rcases hx.2 with ⟨_, h0⟩ | ⟨g, cap, cur, rfl, _, hg, hle, hcm, hcs, htk⟩
  · omega
  · have hr' : ∀ (i : Nat) (x : α), l[i]? = some x → Dat.rd w (fun k => O k ∨ k = g) ((xs.drop (i * Dat.n α)).take (Dat.n α)) x := fun i x hx => Dat.keep (hr i x hx) (Chg.refl Never w) (fun _ _ h => h.elim) (fun k _ hk => hk.imp_right (fun e => by rw [e]; rfl))
    obtain ⟨r, h1, h2⟩ := rdl_of l xs hx.1 hr'
    have e : r.flatten ++ cur.toList.drop (l.length * Dat.n α) = cur.toList := by rw [h2, ← htk, List.take_append_drop]
    refine ⟨g, cap, r, cur.toList.drop (l.length * Dat.n α), rfl, by rw [e]; exact hg, by rw [e]; simpa using hcs, hle, hcm, hO g rfl, h1⟩
theorem own_laid {α : Type} [Dat α] {e : TypeId} {w : World} {O : Nat → Prop} {l : List α} {g cap : Nat} {r : List (List Value)} {tail : List Value} (hg : w.heap[g]? = some (.cells (r.flatten ++ tail).toArray e (0, 0))) (hs : (r.flatten ++ tail).length = cap * Dat.n α) (hle : l.length ≤ cap) (hcm : cap ≤ maxLen) (hO : ¬ O g)
    (hr : RdL w (fun k => O k ∨ k = g) l r) : Own e w O (.slice (some ⟨g, 0, none⟩) l.length cap) l := by
  have hl : r.flatten.length = l.length * Dat.n α := by rw [cells_len hr.len.2, hr.len.1]
  refine ⟨r.flatten, ⟨hl, .inr ⟨g, cap, _, rfl, Nat.zero_le _, hg, hle, hcm, by simpa using hs, ?_⟩⟩, ?_, ?_⟩
  · rw [← hl]; exact List.take_left
  · intro k hk
    injection hk with hk
    subst hk
    exact hO
  · intro i x hx
    exact Dat.keep (hr.get i x hx) (Chg.refl Never w) (fun _ _ h => h.elim) (fun k _ hk => hk.imp_right (fun e => by injection e with e; exact e.symm))
theorem chg_setRow (w : World) (g : Nat) (cs : Array Value) : Chg (fun k => k = g) w (w.setRow g cs) :=
  ⟨rfl, rfl, rfl, by simp [World.setRow], fun k _ hk => setRow_other w g k cs hk⟩
theorem row_cell {w : World} {g : Nat} {L : List Value} {e : TypeId} (h : w.heap[g]? = some (.cells L.toArray e (0, 0))) {j : Nat} {u : Value} (hu : L[j]? = some u) : w.cell? ⟨g, j, none⟩ = some u := by
  simp only [World.cell?, h]
  simpa using hu
theorem run_copy_at {P : Program} (w : World) {dT sT ty e : TypeId} {i : TypeInfo} (ht : P.underlying dT = some (.slice e)) (hi : P.info? e = some i) {g d dLen dCap : Nat} {a : Addr} {sLen sCap : Nat} {cs L : List Value}
    (hg : w.heap[g]? = some (.cells L.toArray e (0, 0))) (hn : cs.length = Nat.min sLen dLen * i.size) (hsrc : ∀ j u, cs[j]? = some u → w.cell? (a.add j) = some u) (hfit : d + cs.length ≤ L.length) (h1 : ∀ u ∈ cs, u.oneCell' = true) :
    (Builtin.copy_ #[dT, sT] ty #[.slice (some ⟨g, d, none⟩) dLen dCap, .slice (some a) sLen sCap]).run P w = .ok (goInt (Nat.min sLen dLen)) (w.setRow g (L.take d ++ cs ++ L.drop (d + cs.length)).toArray) := by
  have hf := run_firstCells_some (P := P) w i.size (Nat.min sLen dLen) a sLen sCap cs hn hsrc
  have hst := run_storeCells_at P g d e cs 0 L.toArray w hg (by simpa using hfit) h1
  simp only [Nat.add_zero] at hst
  simp [Builtin.copy_, run_underlying ht, Builtin.lenOf, sizeOf, typeInfo, hi, hf, hst]
theorem run_clear_at {P : Program} (w : World) {t ty e : TypeId} {z : Value} (ht : P.underlying t = some (.slice e)) (hz : ∀ w, (zeroValue e).run P w = .ok z w) {g d c : Nat} {L zs : List Value} (hzs : (Builtin.zeroCells z.cells 1).toList = zs)
    (hg : w.heap[g]? = some (.cells L.toArray e (0, 0))) (hfit : d + zs.length ≤ L.length) (h1 : ∀ u ∈ zs, u.oneCell' = true) :
    (Builtin.clear_ #[t] ty #[.slice (some ⟨g, d, none⟩) 1 c]).run P w = .ok (.tuple #[]) (w.setRow g (L.take d ++ zs ++ L.drop (d + zs.length)).toArray) := by
  have hst := run_storeCells_at P g d e zs 0 L.toArray w hg (by simpa using hfit) h1
  simp only [Nat.add_zero] at hst
  simp [Builtin.clear_, run_underlying ht, hz, hzs, hst]
theorem step_append_eq {P : Program} {ops : Array Oper} {o : Oper} {a : Act} {w : World} {K : Act → World → Prop} {Q : Exit → Act → World → Prop} {E : Prop} (hgd : o.guard = none) (s x : Operand) (t tn : TypeId)
    (ho : o.op = .call { callee := .builtin .append, args := #[s, x], argTypes := #[t, tn] }) (vs vx : Value) (hs : a.eval s = vs) (hx : a.eval x = vx) {v' : Value} {w' : World} (hr : (Builtin.append_ #[t, tn] o.type #[vs, vx]).run P w = .ok v' w') (h : K (a.put o.dst v') w') :
    if Region.wanted o (yielded ops a.tmps) = true then Oper.wp P o a w K Q else E := by
  have hw : Region.wanted o (yielded ops a.tmps) = true := by simp [Region.wanted, hgd]
  rw [if_pos hw]
  exact Lib.wp_append_run w s x t tn ho vs vx hs hx v' w' hr h
theorem wp_copy_eq {P : Program} (w : World) {o : Oper} {a : Act} {K : Act → World → Prop} {Q : Exit → Act → World → Prop} (d s : Operand) (t t' : TypeId)
    (ho : o.op = .call { callee := .builtin .copy, args := #[d, s], argTypes := #[t, t'] }) (v u : Value) (hd : a.eval d = v) (hs : a.eval s = u) {v' : Value} {w' : World}
    (hr : (Builtin.copy_ #[t, t'] o.type #[v, u]).run P w = .ok v' w') (h : K (a.put o.dst v') w') : o.wp P a w K Q := by
  unfold Oper.wp execOp
  simp only [ho, resolve, invoke, builtin, Sem.run_bind, Sem.run_pure, Result.andThen_ok, List.map_toArray, List.map_cons, List.map_nil, hd, hs, hr]
  exact h
theorem wpList_copy_eq {P : Program} (w : World) {ops : Array Oper} {rest : List Oper} {o : Oper} {a : Act} {Q : Exit → Act → World → Prop} (hgd : o.guard = none) (d s : Operand) (t t' : TypeId)
    (ho : o.op = .call { callee := .builtin .copy, args := #[d, s], argTypes := #[t, t'] }) (v u : Value) (hd : a.eval d = v) (hs : a.eval s = u) {v' : Value} {w' : World}
    (hr : (Builtin.copy_ #[t, t'] o.type #[v, u]).run P w = .ok v' w') (h : wpList P ops Q rest (a.put o.dst v') w') : wpList P ops Q (o :: rest) a w :=
  wpList_plain hgd fun _ hK => wp_copy_eq w d s t t' ho v u hd hs hr (hK _ _ h)
theorem step_copy_eq {P : Program} {ops : Array Oper} {o : Oper} {a : Act} {w : World} {K : Act → World → Prop} {Q : Exit → Act → World → Prop} {E : Prop} (hgd : o.guard = none) (d s : Operand) (t t' : TypeId)
    (ho : o.op = .call { callee := .builtin .copy, args := #[d, s], argTypes := #[t, t'] }) (v u : Value) (hd : a.eval d = v) (hs : a.eval s = u) {v' : Value} {w' : World} (hr : (Builtin.copy_ #[t, t'] o.type #[v, u]).run P w = .ok v' w') (h : K (a.put o.dst v') w') :
    if Region.wanted o (yielded ops a.tmps) = true then Oper.wp P o a w K Q else E := by
  have hw : Region.wanted o (yielded ops a.tmps) = true := by simp [Region.wanted, hgd]
  rw [if_pos hw]
  exact wp_copy_eq w d s t t' ho v u hd hs hr h
end Go.Proofs.YtmjpfoeaobdaeaaGreatDoor
