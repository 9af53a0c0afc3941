/-
  PARTS: THE WALKS of strings.Builder's methods at a builder of one's own: copyCheck, WriteString, WriteByte.; append OF A WHOLE SLICE to one of the call's own; a slice's slice. No program in sight.; A SLICE OF A SLICE, as a run, at whatever element type (light: no function walked).; THE WALKS of base64.encode, Encode.; THE DOCUMENT'S WAY WITH LETTERS, in plain Lean: bit by bit it is the same; what it reads is what the program reads.; THE WALKS of base64.Encode, Decode.; THE WALK of the document's Letters.
-/
import Derived.Test.YtnekhaacapdmfaaDoorPackMb1
import Derived.Shelf.Strings.BuilderK
import Derived.Test.YtnekhaacapdmfaaDoorPackMb2
import Derived.WalkLawsBesides
import Derived.WalkSpells
import Derived.Lib.Replace
namespace Go.Proofs.YtnekhaacapdmfaaDoor
open Go.RowKit

abbrev IsB : Nat → Nat → List Value → World → Prop := Lib.IsBuilderF 71 5
abbrev BAt (B b : Nat) (bs : List Value) (w : World) : Prop := Lib.BuilderAtF 71 5 B b (.pointer (some ⟨b, 0, none⟩)) bs w
theorem bld_info : (Tryd.prog.info? 71).map (·.size) = some 2 := by kernel_rfl
theorem bld_lies : liesAt Tryd.prog Tryd.prog.depth 71 (2 / Tryd.prog.cellsOf 71) 0 71 1 = true := by kernel_rfl
theorem bld_byte : (Tryd.prog.info? 5).map (fun i => (i.zero, i.size, i.bytes)) = some (some (.int .u8 0), 1, 1) := by kernel_rfl

set_option maxHeartbeats 1000000 in
set_option maxRecDepth 100000 in
theorem bld_check (B b : Nat) (bs : List Value) (w : World) (h : IsB B b bs w) :
    Calls Tryd.prog 50 #[.pointer (some ⟨b, 0, none⟩)] w fun e w' => e = .returned (.tuple #[]) ∧ BAt B b bs w' ∧ Below B w w' := by
  obtain ⟨j, hj, hjs⟩ := Option.map_eq_some_iff.1 bld_info
  rcases h with h | h
  · have c0 := h.cell0
    have hsh := h.shape
    have hfz := h.frozen0
    have hfin : BAt B b bs (w.setCell ⟨b, 0, none⟩ (.pointer (some ⟨b, 0, none⟩))) ∧ Below B w (w.setCell ⟨b, 0, none⟩ (.pointer (some ⟨b, 0, none⟩))) := ⟨h.used _, (Below.refl B w).setCell (p := ⟨b, 0, none⟩) h.1 _⟩
    clear h
    go_enter Tryd.func50, Tryd.ntmps50
    go_wp2_with fail
    rw [Lib.run_to_unsafe w ⟨b, 0, none⟩ Tryd.underlying69 Tryd.underlying112 hj (by rw [hjs]; decide) hsh (Nat.zero_lt_succ 1)]
    simp only [Result.andThen]
    rw [Oper.upon_value]
    go_wp2_with fail
    rw [run_callFunc_extern Tryd.func69 (by kernel_rfl) (by kernel_rfl) (by kernel_rfl) (e := Extern.AbiNoEscape.same) (by kernel_rfl)]
    rw [Lib.run_noEscape]
    simp only [Result.andThen]
    rw [Oper.upon_value]
    go_wp2_with fail
    rw [Lib.run_from_unsafe w ⟨b, 0, none⟩ Tryd.underlying112 Tryd.underlying69 hj hsh bld_lies]
    simp only [Result.andThen]
    rw [Oper.upon_value]
    go_wp2_with fail
    go_end0
    exact ⟨rfl, hfin.1, hfin.2⟩
  · have c0 := h.cell0
    go_enter Tryd.func50, Tryd.ntmps50
    go_wp2_with fail
    rw [Lib.run_neq_ptr_same w _ Tryd.underlying69 hj]
    go_wp2_with fail
    go_end0
    exact ⟨rfl, h, Below.refl B _⟩
set_option maxHeartbeats 1000000 in
set_option maxRecDepth 100000 in
theorem bld_string (B b : Nat) (bs : List Value) (s : ByteArray) (w : World) (h : IsB B b bs w) (hlen : bs.length + s.size ≤ 140737488355328) (hBw : B ≤ w.heap.size) :
    Calls Tryd.prog 28 #[.pointer (some ⟨b, 0, none⟩), .string s] w fun e w' => e = .returned (.tuple #[.int .i64 s.size, .nilIface]) ∧ BAt B b (bs ++ Lib.strCells s) w' ∧ Below B w w' := by
  obtain ⟨i0, hi, hz0, hz1, hz2⟩ := info_parts bld_byte
  go_enter Tryd.func28, Tryd.ntmps28
  go_wp2_with fail
  refine (bld_check B b bs _ h).mono ?_
  rintro e w1 ⟨rfl, h1, hb1⟩
  obtain ⟨hB, v, hbk, hown, hne⟩ := h1
  have c0 : w1.cell? ⟨b, 0, none⟩ = some (.pointer (some ⟨b, 0, none⟩)) := by rw [Lib.cell_of_heap hbk]; rfl
  have c1 : w1.cell? ⟨b, 1, none⟩ = some v := by rw [Lib.cell_of_heap hbk]; rfl
  have hlt : b < w1.heap.size := (Array.getElem?_eq_some_iff.1 hbk).1
  have hs1 := hb1.size
  go_wp2_with (at_builtin; refine Lib.wpList_append_own_stringF _ rfl _ _ 22 9 rfl B 5 i0 Tryd.underlying22 Tryd.underlying9 hi hz0 hz1 hz2 _ _ _ rfl hown s rfl (by unfold maxLen; omega) (by omega) (by omega) ?_)
  intro v' w2 hown' hgrow _
  have hb2 : w2.heap[b]? = some (.cells #[.pointer (some ⟨b, 0, none⟩), v] 71 (0, 0)) := (hgrow.block b hlt (fun e => hne e.symm)).trans hbk
  have d0 : w2.cell? ⟨b, 0, none⟩ = some (.pointer (some ⟨b, 0, none⟩)) := by rw [Lib.cell_of_heap hb2]; rfl
  have d1 : w2.cell? ⟨b, 1, none⟩ = some v := by rw [Lib.cell_of_heap hb2]; rfl
  have f1 : w2.frozen? ⟨b, 1, none⟩ = false := Lib.frozen_of_heap hb2 1
  have hfin := Lib.BuilderAtF.put (T := 71) (e := 5) (v' := v') hB hb2 (bs' := bs ++ Lib.strCells s) (by simpa [Lib.strCells_length] using hown') (by decide)
  have hfin2 := (hb1.grown hgrow (by omega) (fun k hk => (hown.lt k hk).1)).setCell (p := ⟨b, 1, none⟩) hB v'
  obtain ⟨ao, n', cap, rfl⟩ : ∃ ao n' cap, v' = .slice ao n' cap := by
    rcases hown'.2 with ⟨hv, _⟩ | ⟨g, cap, cur, fz, hv, _⟩
    · exact ⟨_, _, _, hv⟩
    · exact ⟨_, _, _, hv⟩
  clear hgrow hown hown' hbk hb2 c0 c1
  go_wp2_with fail
  go_ret2
  exact ⟨rfl, hfin, hfin2⟩
set_option maxHeartbeats 1000000 in
set_option maxRecDepth 100000 in
theorem bld_byte1 (B b : Nat) (bs : List Value) (c : Int) (w : World) (h : IsB B b bs w) (hlen : bs.length + 1 ≤ 140737488355328) (hBw : B ≤ w.heap.size) :
    Calls Tryd.prog 56 #[.pointer (some ⟨b, 0, none⟩), .int .u8 c] w fun e w' => e = .returned .nilIface ∧ BAt B b (bs ++ [.int .u8 c]) w' ∧ Below B w w' := by
  obtain ⟨i0, hi, hz0, hz1, hz2⟩ := info_parts bld_byte
  go_enter Tryd.func56, Tryd.ntmps56
  go_wp2_with fail
  refine (bld_check B b bs _ h).mono ?_
  rintro e w1 ⟨rfl, h1, hb1⟩
  obtain ⟨hB, v, hbk, hown, hne⟩ := h1
  have c0 : w1.cell? ⟨b, 0, none⟩ = some (.pointer (some ⟨b, 0, none⟩)) := by rw [Lib.cell_of_heap hbk]; rfl
  have c1 : w1.cell? ⟨b, 1, none⟩ = some v := by rw [Lib.cell_of_heap hbk]; rfl
  have hlt : b < w1.heap.size := (Array.getElem?_eq_some_iff.1 hbk).1
  have hs1 := hb1.size
  go_wp2_with (at_builtin; refine wpList_append_ownF _ rfl _ _ 22 rfl B 5 i0 (.int .u8 0) 1 1 Tryd.underlying22 hi hz0 hz1 hz2 rfl (by decide) _ _ _ rfl (hown.alloc _) ⟨w1.heap.size, 0, none⟩ 1 1 [.int .u8 c] rfl rfl ?c1 ?c2 (by unfold maxLen; omega) (by omega) (by simp; omega) ?_)
  case c1 =>
    intro j u hj
    match j, hj with
    | 0, hj => simp at hj; subst hj; simp [Addr.add]
  case c2 => intro u hu; simp at hu; subst hu; rfl
  intro v' w2 hown' hgrow _
  have hb2 : w2.heap[b]? = some (.cells #[.pointer (some ⟨b, 0, none⟩), v] 71 (0, 0)) := ((hgrow.block b (by simp; omega) (fun e => hne e.symm)).trans (Lib.alloc_old w1 _ b hlt)).trans hbk
  have d0 : w2.cell? ⟨b, 0, none⟩ = some (.pointer (some ⟨b, 0, none⟩)) := by rw [Lib.cell_of_heap hb2]; rfl
  have d1 : w2.cell? ⟨b, 1, none⟩ = some v := by rw [Lib.cell_of_heap hb2]; rfl
  have f1 : w2.frozen? ⟨b, 1, none⟩ = false := Lib.frozen_of_heap hb2 1
  have hfin := Lib.BuilderAtF.put (T := 71) (e := 5) (v' := v') hB hb2 (bs' := bs ++ [.int .u8 c]) (by simpa using hown') (by decide)
  have hfin2 := ((hb1.alloc (by omega) _).grown hgrow (by simp; omega) (fun k hk => (hown.lt k hk).1)).setCell (p := ⟨b, 1, none⟩) hB v'
  obtain ⟨ao, n', cap, rfl⟩ : ∃ ao n' cap, v' = .slice ao n' cap := by
    rcases hown'.2 with ⟨hv, _⟩ | ⟨g, cap, cur, fz, hv, _⟩
    · exact ⟨_, _, _, hv⟩
    · exact ⟨_, _, _, hv⟩
  clear hgrow hown hown' hbk hb2 c0 c1
  go_wp2_with fail
  go_ret
  exact ⟨rfl, hfin, hfin2⟩
end Go.Proofs.YtnekhaacapdmfaaDoor
namespace Go.Proofs.YtnekhaacapdmfaaDoor
open Go.RowKit

theorem elems_cells {α : Type} [Dat α] {w : World} {O : Nat → Prop} {b off : Nat} {m : List α} (h : Elems w O (some ⟨b, off, none⟩) m) : ∀ k, k ≤ m.length →
    ∃ news : List Value, news.length = k * Dat.n α ∧ (∀ (j : Nat) (u : Value), news[j]? = some u → w.cell? ⟨b, off + j, none⟩ = some u) ∧ (∀ u ∈ news, u.oneCell' = true) ∧
      (∀ (i : Nat) (x : α), i < k → m[i]? = some x → Dat.rd w O ((news.drop (i * Dat.n α)).take (Dat.n α)) x) := by
  intro k
  induction k with
  | zero => intro _; exact ⟨[], by simp, by simp, by simp, fun i x hi => by omega⟩
  | succ k ih =>
    intro hk
    obtain ⟨news, h1, h2, h3, h4⟩ := ih (by omega)
    have hx : m[k]? = some m[k] := by simp
    obtain ⟨b', off', es, he, hb, hcs, hr⟩ := h k m[k] hx
    simp only [Option.some.injEq, Addr.mk.injEq, and_true] at he
    obtain ⟨rfl, rfl⟩ := he
    have hes := Dat.len hr
    refine ⟨news ++ es, by rw [List.length_append, h1, hes, Nat.succ_mul], ?_, ?_, ?_⟩
    · intro j u hj
      rcases Nat.lt_or_ge j news.length with hl | hl
      · rw [List.getElem?_append_left hl] at hj
        exact h2 j u hj
      · rw [List.getElem?_append_right hl] at hj
        have := hcs _ u hj
        rw [show off + k * Dat.n α + (j - news.length) = off + j by omega] at this
        exact this
    · intro u hu
      rcases List.mem_append.1 hu with hu | hu
      · exact h3 u hu
      · exact Dat.one hr u hu
    · intro i x hi hxi
      rcases Nat.lt_or_ge i k with hl | hl
      · have hle : i * Dat.n α + Dat.n α ≤ news.length := by rw [h1, ← Nat.succ_mul]; exact Nat.mul_le_mul_right _ hl
        rw [List.drop_append_of_le_length (by omega), List.take_append_of_le_length (by rw [List.length_drop]; omega)]
        exact h4 i x hl hxi
      · obtain rfl : i = k := by omega
        rw [hx] at hxi
        injection hxi with hxi
        subst hxi
        rw [← h1, List.drop_left, List.take_of_length_le (by omega)]
        exact hr

theorem run_append_empty {P : Program} {t ty e : TypeId} {n : Nat} (hP : ElemOk P t e n) {w : World} {v : Value} {m : Nat} {xs : List Value} (hown : w.ownsRow 0 e n v m xs) (a : Option Addr) (c : Nat) :
    (Builtin.append_ #[t, t] ty #[v, .slice a 0 c]).run P w = .ok v w := by
  obtain ⟨i, z, hi, _⟩ := hP.info
  have ht := hP.ht
  cases a with
  | none =>
    rcases hown.2 with ⟨rfl, rfl⟩ | ⟨g, cap, cur, rfl, _, _, hnc, _⟩
    · simp [Builtin.append_, run_underlying ht, sizeOf, typeInfo, hi, Builtin.lenOf, Builtin.firstCells]
    · simp [Builtin.append_, run_underlying ht, sizeOf, typeInfo, hi, Builtin.lenOf, Builtin.firstCells, hnc, storeCells]
  | some a =>
    rcases hown.2 with ⟨rfl, rfl⟩ | ⟨g, cap, cur, rfl, _, _, hnc, _⟩
    · simp [Builtin.append_, run_underlying ht, sizeOf, typeInfo, hi, Builtin.lenOf, Builtin.firstCells, loadCells, loadCellsFrom]
    · simp [Builtin.append_, run_underlying ht, sizeOf, typeInfo, hi, Builtin.lenOf, Builtin.firstCells, loadCells, loadCellsFrom, hnc, storeCells]

theorem run_many {P : Program} {α : Type} [Dat α] {t ty e : TypeId} (hP : ElemOk P t e (Dat.n α)) {w0 : World} {O : Nat → Prop} {v x : Value} {l m : List α}
    (hown : Own e w0 O v l) (hx : Rdv w0 Never x m) (hd : ∀ cs y, Dat.rd w0 Never cs (y : α) → Dat.rd w0 (fun k => O k ∨ v.ownBlock = some k) cs y) (hO : ∀ k, O k → k < w0.heap.size) (hlen : l.length + m.length ≤ 1000000000) :
    ∃ v' w', (Builtin.append_ #[t, t] ty #[v, x]).run P w0 = .ok v' w' ∧ Own e w' O v' (l ++ m) ∧ Chg (OwnB v) w0 w' := by
  obtain ⟨a, cap, rfl, c1, c2, hel⟩ := rdv_slice hx
  rcases Nat.eq_zero_or_pos m.length with h0 | hpos
  · have : m = [] := List.eq_nil_of_length_eq_zero h0
    subst this
    refine ⟨v, w0, ?_, by rw [List.append_nil]; exact hown, Chg.refl _ _⟩
    obtain ⟨xs, hrow, _⟩ := hown
    exact run_append_empty hP hrow a cap
  · obtain ⟨b, off, rfl⟩ : ∃ b off, a = some ⟨b, off, none⟩ := by
      obtain ⟨b, off, es, ha, _⟩ := hel 0 m[0] (by simp [hpos])
      exact ⟨b, off, ha⟩
    obtain ⟨i, z, hi, hz, hsz, hzs, hby⟩ := hP.info
    obtain ⟨xs, hrow, hb, hels⟩ := id hown
    obtain ⟨news, n1, n2, n3, n4⟩ := elems_cells hel m.length (Nat.le_refl _)
    have hpos' := Dat.pos (α := α)
    have hcells : ∀ j u, news[j]? = some u → w0.cell? ((⟨b, off, none⟩ : Addr).add j) = some u := by
      intro j u hj
      have e1 : (⟨b, off, none⟩ : Addr).add j = ⟨b, off + j, none⟩ := by unfold Addr.add; split <;> simp_all
      rw [e1]
      exact n2 j u hj
    have hbound : (l.length + m.length) * i.bytes ≤ 140737488355328 := by
      have := Nat.mul_le_mul hlen hby
      omega
    obtain ⟨v', w', hrun, hown', hgrow, hnil⟩ := run_append_own (P := P) w0 0 t ty e i z (Dat.n α) i.bytes hP.ht hi hz hsz rfl hzs hpos' v l.length xs hrow
      ⟨b, off, none⟩ m.length cap news n1 hcells n3 (by unfold maxLen; omega) hbound (Nat.zero_le _)
    obtain ⟨kb, hkb, hkb'⟩ := append_block (P := P) w0 0 t ty e i z (Dat.n α) i.bytes hP.ht hi hz hsz rfl v l.length xs hrow
      ⟨b, off, none⟩ m.length cap news n1 hcells n3 (by unfold maxLen; omega) hbound (by omega) hrun
    have hc : Chg (OwnB v) w0 w' := Chg.of_grown hgrow
    have hsub : ∀ k, k < w0.heap.size → (O k ∨ v'.ownBlock = some k) → (O k ∨ v.ownBlock = some k) := by
      rintro k hk (h | h)
      · exact .inl h
      · rw [hkb] at h
        injection h with h
        subst h
        rcases hkb' with h | h
        · exact .inr h
        · omega
    refine ⟨v', w', hrun, ⟨xs ++ news, ?_, ?_, ?_⟩, hc⟩
    · rw [List.length_append]; exact hown'
    · intro k hk ho
      rw [hkb] at hk
      injection hk with hk
      subst hk
      rcases hkb' with h | h
      · exact hb _ h ho
      · exact absurd (hO _ ho) (by omega)
    · intro j y hj
      have hxl : xs.length = l.length * Dat.n α := hrow.1
      rcases Nat.lt_or_ge j l.length with hjl | hjl
      · rw [List.getElem?_append_left hjl] at hj
        have hle : j * Dat.n α + Dat.n α ≤ xs.length := by rw [hxl, ← Nat.succ_mul]; exact Nat.mul_le_mul_right _ hjl
        rw [List.drop_append_of_le_length (by omega), List.take_append_of_le_length (by rw [List.length_drop]; omega)]
        exact Dat.keep (hels j y hj) hc (fun k _ hk => .inr hk) hsub
      · rw [List.getElem?_append_right hjl] at hj
        have hjm := (List.getElem?_eq_some_iff.1 hj).1
        have e1 : (xs ++ news).drop (j * Dat.n α) = news.drop ((j - l.length) * Dat.n α) := by
          have e2 : j * Dat.n α = xs.length + (j - l.length) * Dat.n α := by rw [hxl, ← Nat.add_mul]; congr 1; omega
          rw [e2, List.drop_append]
          simp
        rw [e1]
        exact Dat.keep (hd _ _ (n4 _ y hjm hj)) hc (fun k _ hk => .inr hk) hsub

theorem wpList_many {P : Program} {ops : Array Oper} {rest : List Oper} {o : Oper} {a : Act} {Q : Exit → Act → World → Prop} (hgd : o.guard = none) (s x : Operand) (t : TypeId)
    (ho : o.op = .call { callee := .builtin .append, args := #[s, x], argTypes := #[t, t] }) {α : Type} [Dat α] {e : TypeId} (hP : ElemOk P t e (Dat.n α)) {w0 : World} {O : Nat → Prop} {v u : Value} {l m : List α}
    (hs : a.eval s = v) (hx : a.eval x = u) (hown : Own e w0 O v l) (hu : Rdv w0 Never u m) (hd : ∀ cs y, Dat.rd w0 Never cs (y : α) → Dat.rd w0 (fun k => O k ∨ v.ownBlock = some k) cs y) (hO : ∀ k, O k → k < w0.heap.size) (hlen : l.length + m.length ≤ 1000000000)
    (h : ∀ v' w', Own e w' O v' (l ++ m) → Chg (OwnB v) w0 w' → wpList P ops Q rest (a.put o.dst v') w') :
    wpList P ops Q (o :: rest) a w0 := by
  refine wpList_plain hgd fun K hK => ?_
  obtain ⟨v', w', hrun, h1, h2⟩ := run_many (ty := o.type) hP hown hu hd hO hlen
  unfold Oper.wp execOp
  simp only [ho, resolve, invoke, builtin, Sem.run_bind, Sem.run_pure, Result.andThen_ok, List.map_toArray, List.map_cons, List.map_nil, hs, hx, hrun]
  exact hK _ _ (h v' w' h1 h2)

/-! ### a slice's slice -/
theorem elems_sub {α : Type} [Dat α] {w : World} {O : Nat → Prop} {b off : Nat} {l : List α} (h : Elems w O (some ⟨b, off, none⟩) l) (i k : Nat) : Elems w O (some ⟨b, off + i * Dat.n α, none⟩) ((l.drop i).take k) := by
  intro q x hx
  rw [List.getElem?_take] at hx
  split at hx
  · rw [List.getElem?_drop] at hx
    obtain ⟨b', off', es, he, hb, hcs, hr⟩ := h (i + q) x hx
    simp only [Option.some.injEq, Addr.mk.injEq, and_true] at he
    obtain ⟨rfl, rfl⟩ := he
    refine ⟨b, _, es, rfl, hb, ?_, hr⟩
    rw [Nat.add_assoc, ← Nat.add_mul]
    exact hcs
  · cases hx
/-- 's[i:j]' as a value -/
theorem rdv_sliced {α : Type} [Dat α] {w : World} {O : Nat → Prop} {a : Option Addr} {cap : Nat} {l : List α} (h : Rdv w O (.slice a l.length cap) l) (i j : Nat) (hij : i ≤ j) (hj : j ≤ l.length) :
    Rdv w O (sliced a i j cap (Dat.n α)) ((l.drop i).take (j - i)) := by
  obtain ⟨a', cap', e, h1, h2, h3⟩ := rdv_slice h
  simp only [Value.slice.injEq, true_and] at e
  obtain ⟨rfl, rfl⟩ := e
  have hl : ((l.drop i).take (j - i)).length = j - i := by rw [List.length_take, List.length_drop]; omega
  refine ⟨if cap = i then a else a.map (·.add (i * Dat.n α)), cap - i, by rw [hl]; rfl, by rw [hl]; omega, by omega, ?_⟩
  by_cases hc : cap = i
  · have : (l.drop i).take (j - i) = [] := List.eq_nil_of_length_eq_zero (by rw [hl]; omega)
    rw [this]
    intro q x hx
    simp at hx
  · rw [if_neg hc]
    intro q x hx
    have hq := (List.getElem?_eq_some_iff.1 hx).1
    have hpos : 0 < l.length := by rw [hl] at hq; omega
    obtain ⟨b, off, es, ha, _⟩ := h3 0 l[0] (by simp [hpos])
    subst ha
    have e1 : (some (⟨b, off, none⟩ : Addr)).map (·.add (i * Dat.n α)) = some ⟨b, off + i * Dat.n α, none⟩ := by
      simp only [Option.map_some]
      unfold Addr.add
      split <;> simp_all
    rw [e1]
    exact elems_sub h3 i (j - i) q x hx
theorem sliced_isSlice (a : Option Addr) (i j cap s : Nat) : ∃ b, sliced a i j cap s = .slice b (j - i) (cap - i) := ⟨_, rfl⟩
end Go.Proofs.YtnekhaacapdmfaaDoor
namespace Go.Proofs.YtnekhaacapdmfaaDoor
open Go.RowKit

/-- 's[i:j]' as a run, at whatever element type -/
theorem slice_g {P : Program} {t : TypeId} (ht : P.underlying t = some (.slice (P.elem t))) {α : Type} [Dat α] (hsz : ∀ w, (sizeOf (P.elem t)).run P w = .ok (Dat.n α) w) {w0 : World} {O : Nat → Prop} {a : Option Addr} {cap : Nat} {l : List α} (h : Rdv w0 O (.slice a l.length cap) l) (i j : Nat) (hij : i ≤ j) (hj : j ≤ l.length) :
    ∃ b, (∀ (x y : Int) (w : World), x = i → y = j → (Instr.slice t (.slice a l.length cap) (some (.int .i64 x)) (some (.int .i64 y)) none).run P w = .ok (.slice b (j - i) (cap - i)) w) ∧
      (∀ (x : Int) (w : World), x = i → j = l.length → (Instr.slice t (.slice a l.length cap) (some (.int .i64 x)) none none).run P w = .ok (.slice b (j - i) (cap - i)) w) ∧
      (∀ (y : Int) (w : World), i = 0 → y = j → (Instr.slice t (.slice a l.length cap) none (some (.int .i64 y)) none).run P w = .ok (.slice b (j - i) (cap - i)) w) ∧
      Rdv w0 O (.slice b (j - i) (cap - i)) ((l.drop i).take (j - i)) := by
  have hr := rdv_sliced h i j hij hj
  obtain ⟨b, hb⟩ := sliced_isSlice a i j cap (Dat.n α)
  obtain ⟨a', cap', e, h1, h2, h3⟩ := rdv_slice h
  simp only [Value.slice.injEq, true_and] at e
  obtain ⟨rfl, rfl⟩ := e
  refine ⟨b, ?_, ?_, ?_, hb ▸ hr⟩
  · rintro x y w rfl rfl
    rw [run_slice_lh w t a l.length cap ht .i64 .i64 _ _ (by omega) (by omega) (by omega), hsz]
    simp only [Result.andThen_ok, Int.toNat_natCast]
    rw [hb]
  · rintro x w rfl rfl
    rw [run_slice_l w t a l.length cap ht .i64 _ (by omega) (by omega), hsz]
    simp only [Result.andThen_ok, Int.toNat_natCast]
    rw [hb]
  · rintro y w rfl rfl
    rw [run_slice_h w t a l.length cap ht .i64 _ (by omega) (by omega), hsz]
    simp only [Result.andThen_ok, Int.toNat_natCast]
    rw [hb]
end Go.Proofs.YtnekhaacapdmfaaDoor
namespace Go.Proofs.YtnekhaacapdmfaaDoor
open Go.RowKit

abbrev BAt' (p : Value) (B b : Nat) (bs : List Value) (w : World) : Prop := Lib.BuilderAtF 71 5 B b p bs w
theorem isB_keep {B b : Nat} {bs : List Value} {w w' : World} (h : IsB B b bs w) (hc : Chg Never w w') : IsB B b bs w' := by
  have key : ∀ p, BAt' p B b bs w → BAt' p B b bs w' := by
    rintro p hp
    have hlt := Lib.BuilderAtF.lt hp
    obtain ⟨hB, v, hv, hown, hne⟩ := hp
    exact ⟨hB, v, (hc.block b hlt (fun x => x)).trans hv, hown.kept (row := none) ⟨hc.os, hc.tape, hc.output, hc.size, fun k hk _ => hc.block k hk (fun x => x)⟩ (by cases hx : v.ownBlock <;> simp), hne⟩
  exact h.elim (fun x => .inl (key _ x)) (fun x => .inr (key _ x))
theorem size_byte (w : World) : (sizeOf (Tryd.prog.elem 22)).run Tryd.prog w = .ok 1 w := by kernel_rfl
theorem enc_cons {r : List UInt8} (h : r ≠ []) (n : Nat) : encGo r n = fourOf (r.take 3) ++ (if (n + 4) % 76 = 0 ∨ r.drop 3 = [] then [10] else []) ++ encGo (r.drop 3) (n + 4) := by
  match r, h with
  | x :: r, _ => rw [encGo]
theorem take_min (r : List UInt8) : r.take (min 3 r.length) = r.take 3 := by
  by_cases h : 3 ≤ r.length
  · rw [Nat.min_eq_left h]
  · rw [Nat.min_eq_right (by omega), List.take_length, List.take_of_length_le (by omega)]
theorem drop_min (r : List UInt8) : r.drop (min 3 r.length) = r.drop 3 := by
  by_cases h : 3 ≤ r.length
  · rw [Nat.min_eq_left h]
  · rw [Nat.min_eq_right (by omega), List.drop_length, List.drop_of_length_le (by omega)]

set_option maxHeartbeats 1000000 in
set_option maxRecDepth 100000 in
theorem encode_any (l : List UInt8) (v : Value) (w : World) (h : Rdv w Never v l) (hl : l.length ≤ 100000000) :
    Calls Tryd.prog 45 #[v] w fun e w' => e = .returned (.string (toB (encL l))) ∧ Chg Never w w' := by
  obtain ⟨a, cap, rfl, h1, h2, h3⟩ := rdv_slice h
  unfold maxLen at h2
  go_enter Tryd.func45, Tryd.ntmps45
  go_wp2_with fail
  go_loopw [0, 4] (fun bv nv wr => ∃ (p n : Nat) (acc : List UInt8), nv = .int .i64 n ∧ p ≤ l.length ∧ n ≤ 4 * p ∧ Chg Never w wr ∧ Rdv w Never bv (l.drop p) ∧ IsB w.heap.size w.heap.size (Lib.byteCells acc) wr ∧ acc.length ≤ 5 * p ∧ Hid (acc ++ encGo (l.drop p) n = encL l)) (fun _ nv _ => (4 * l.length + 4 - intOf nv).toNat)
  case atStart => exact ⟨0, 0, [], rfl, Nat.zero_le _, Nat.le_refl _, (Chg.refl Never w).alloc _, h, Lib.IsBuilderF.of (Lib.fresh_isBuilder _ _ w), Nat.zero_le _, rfl⟩
  case round =>
    clear h h3
    obtain ⟨p, n, acc, rfl, hp, hn, hw, hb, hI, hacc, hR⟩ := hrel
    rename World => wr
    have hbs : w.heap.size ≤ wr.heap.size := hw.size
    obtain ⟨ab, capb, rfl, b1, b2, b3⟩ := rdv_slice hb
    unfold maxLen at b2
    have hdl : (l.drop p).length = l.length - p := List.length_drop
    by_cases hlt : p < l.length
    · have hne : l.drop p ≠ [] := fun e => by rw [e] at hdl; simp at hdl; omega
      have HE := Lib.hid (enc_cons hne n)
      have HR2 : Hid (acc ++ fourOf ((l.drop p).take 3) ++ (if (n + 4) % 76 = 0 ∨ (l.drop p).drop 3 = [] then [10] else []) ++ encGo ((l.drop p).drop 3) (n + 4) = encL l) := by
        rw [Hid, ← hR.out, HE.out]
        simp only [List.append_assoc]
      obtain ⟨r, hr⟩ : ∃ r, l.drop p = r := ⟨_, rfl⟩
      obtain ⟨q, hq⟩ : ∃ q, min 3 r.length = q := ⟨_, rfl⟩
      rw [hr] at hb b1 b3 hdl HR2 ⊢
      have hq1 : 1 ≤ q ∧ q ≤ 3 ∧ q ≤ r.length := by omega
      have hmin : min (3 : Int) (r.length : Int) = (q : Int) := by omega
      obtain ⟨sb, z0, z1, hrunH, hsub⟩ := slice_g (P := Tryd.prog) (t := 22) (by kernel_rfl) size_byte hb 0 q (Nat.zero_le _) hq1.2.2
      have hrunH := fun (wx : World) => hrunH (q : Nat) wx rfl rfl
      obtain ⟨st, y0, hrunT, y1, hsut⟩ := slice_g (P := Tryd.prog) (t := 22) (by kernel_rfl) size_byte hb q r.length hq1.2.2 (Nat.le_refl _)
      have hrunT := fun (wx : World) => hrunT (q : Nat) wx rfl rfl
      clear z0 z1 y0 y1 b3 hb hne
      rw [List.drop_zero, Nat.sub_zero, Nat.sub_zero, ← hq, take_min] at hsub
      rw [hq] at hsub
      rw [Nat.sub_zero, Nat.sub_zero] at hrunH
      rw [← hq, drop_min, List.take_of_length_le (by rw [List.length_drop]; omega), hq] at hsut
      have hf4 : Hid ((fourOf (r.take 3)).length = 4) := four_len _
      have HT : Hid ((r.drop 3 = []) ↔ r.length - q = 0) := by
        rw [Hid, List.drop_eq_nil_iff]; omega
      have HP : Hid (l.drop (p + q) = r.drop 3) := by
        rw [Hid, ← drop_min r, hq, ← hr, List.drop_drop]
      have HQ := Lib.hid hq
      have HRL : Hid (r.length = l.length - p) := hdl
      have hrl1 : r.length ≤ l.length := by have := HRL.out; omega
      have hrl2 : p + q ≤ l.length := by have := HRL.out; omega
      clear hq hr hdl
      have htk : (r.take 3).length ≤ 3 := by rw [List.length_take]; omega
      go_wp2_with fail
      refine (four_any (r.take 3) _ _ (hsub.never hw) htk).mono ?_
      rintro e w2 ⟨rfl, hc2⟩
      have hI2 := isB_keep hI hc2
      have hw2 := hw.trans hc2
      have hbs2 := hw2.size
      clear hc2 hI hsub hw
      go_wp2_with fail
      refine (bld_string w.heap.size w.heap.size (Lib.byteCells acc) (toB (fourOf (r.take 3))) _ hI2 (by rw [Lib.byteCells_length, Lib.size_eq, toB_data, hf4.out]; omega) hbs2).mono ?_
      rintro e w3 ⟨rfl, hI3, hb3⟩
      rw [Lib.strCells_eq, toB_data, ← Lib.byteCells_append] at hI3
      have hbs3 := hb3.size
      have hw3 : Chg Never w w3 := Chg.of_below (hw2.never.trans hb3)
      have hm : Hid (((n : Int) + 4) % 76 = (((n + 4) % 76 : Nat) : Int)) := by rw [Hid]; omega
      clear hb3 hw2
      by_cases hnl : (n + 4) % 76 = 0
      · have HR3 : Hid (acc ++ fourOf (r.take 3) ++ [10] ++ encGo (r.drop 3) (n + 4) = encL l) := by have := HR2.out; rw [if_pos (.inl hnl)] at this; exact this
        have t1 : (((n : Int) + 4) % 76 == 0) = true := by rw [hm.out, hnl]; rfl
        clear hm hnl
        go_wp2_with fail
        refine (bld_byte1 w.heap.size w.heap.size _ 10 _ (.inr hI3) (by rw [Lib.byteCells_length, List.length_append, hf4.out]; omega) hw3.size).mono ?_
        rintro e w4 ⟨rfl, hI4, hb4⟩
        have hwE : Chg Never w w4 := Chg.of_below (hw3.never.trans hb4)
        have hIE : IsB w.heap.size w.heap.size (Lib.byteCells (acc ++ fourOf (r.take 3) ++ [10])) w4 := .inr (by rw [Lib.byteCells_append]; exact hI4)
        clear hI4 hb4 hI3 hw3
        go_wp2_with fail
        go_roundw
        case rel => exact ⟨p + q, n + 4, acc ++ fourOf (r.take 3) ++ [10], by first | rfl | (congr 1), hrl2, by omega, hwE, by rw [HP.out]; exact hsut, hIE, by simp only [List.length_append, List.length_singleton, hf4.out]; omega, by rw [HP.out]; exact HR3.out⟩
        case measure => simp [intOf]; omega
      · by_cases hend : r.length - q = 0
        · have HR3 : Hid (acc ++ fourOf (r.take 3) ++ [10] ++ encGo (r.drop 3) (n + 4) = encL l) := by have := HR2.out; rw [if_pos (.inr (HT.out.2 hend))] at this; exact this
          have t1 : (((n : Int) + 4) % 76 == 0) = false := by rw [hm.out]; simp; omega
          have t2 : (((r.length - q : Nat) : Int) == 0) = true := by rw [hend]; rfl
          clear hm hnl hend
          go_wp2_with fail
          refine (bld_byte1 w.heap.size w.heap.size _ 10 _ (.inr hI3) (by rw [Lib.byteCells_length, List.length_append, hf4.out]; omega) hw3.size).mono ?_
          rintro e w4 ⟨rfl, hI4, hb4⟩
          have hwE : Chg Never w w4 := Chg.of_below (hw3.never.trans hb4)
          have hIE : IsB w.heap.size w.heap.size (Lib.byteCells (acc ++ fourOf (r.take 3) ++ [10])) w4 := .inr (by rw [Lib.byteCells_append]; exact hI4)
          clear hI4 hb4 hI3 hw3
          go_wp2_with fail
          go_roundw
          case rel => exact ⟨p + q, n + 4, acc ++ fourOf (r.take 3) ++ [10], by first | rfl | (congr 1), hrl2, by omega, hwE, by rw [HP.out]; exact hsut, hIE, by simp only [List.length_append, List.length_singleton, hf4.out]; omega, by rw [HP.out]; exact HR3.out⟩
          case measure => simp [intOf]; omega
        · have HR3 : Hid (acc ++ fourOf (r.take 3) ++ encGo (r.drop 3) (n + 4) = encL l) := by
            have := HR2.out
            rw [if_neg (by rintro (e | e); · exact hnl e
                           · exact hend (HT.out.1 e)), List.append_nil] at this
            exact this
          have t1 : (((n : Int) + 4) % 76 == 0) = false := by rw [hm.out]; simp; omega
          have t2 : (((r.length - q : Nat) : Int) == 0) = false := by simp; omega
          have hwE := hw3
          have hIE : IsB w.heap.size w.heap.size (Lib.byteCells (acc ++ fourOf (r.take 3))) w3 := .inr hI3
          clear hm hnl hend hw3 hI3
          go_wp2_with fail
          go_roundw
          case rel => exact ⟨p + q, n + 4, acc ++ fourOf (r.take 3), by first | rfl | (congr 1), hrl2, by omega, hwE, by rw [HP.out]; exact hsut, hIE, by simp only [List.length_append, List.length_singleton, hf4.out]; omega, by rw [HP.out]; exact HR3.out⟩
          case measure => simp [intOf]; omega
    · obtain rfl : p = l.length := by omega
      have hR' := hR.out
      rw [List.drop_length, encGo, List.append_nil] at hR'
      rw [hR'] at hI
      clear hR hR' hacc
      go_wp2_with fail
      refine (Tryd.Builder_String_any_k w.heap.size w.heap.size (encL l) _ hI hbs).mono ?_
      rintro e w4 ⟨rfl, _, b4, _⟩
      have hwE : Chg Never w w4 := Chg.of_below (hw.never.trans b4)
      go_wp2_with fail
      go_ret
      exact ⟨rfl, hwE⟩
end Go.Proofs.YtnekhaacapdmfaaDoor
namespace Go.Proofs.YtnekhaacapdmfaaDoor

/-! ### written bit by bit -/
def bitAt (l : List UInt8) (k : Nat) : Nat := if k < 8 * l.length then (l.getD (k / 8) 0).toNat / 2 ^ (7 - k % 8) % 2 else 0
def sixAt (l : List UInt8) (i : Nat) : Nat := (((((bitAt l i * 2 + bitAt l (i + 1)) * 2 + bitAt l (i + 2)) * 2 + bitAt l (i + 3)) * 2 + bitAt l (i + 4)) * 2) + bitAt l (i + 5)
def rawL (l : List UInt8) : List UInt8 := (List.range ((8 * l.length + 5) / 6)).map fun j => letterAt (sixAt l (6 * j))
def padL (s : List UInt8) : List UInt8 := s ++ List.replicate ((4 - s.length % 4) % 4) 61
def lineGo (s : List UInt8) : List UInt8 := if 76 < s.length then s.take 76 ++ [10] ++ lineGo (s.drop 76) else if s = [] then [] else s ++ [10]
termination_by s.length
decreasing_by simp; omega
def flatE : List UInt8 → List UInt8
  | [] => []
  | x :: r => fourOf ((x :: r).take 3) ++ flatE ((x :: r).drop 3)
termination_by l => l.length
decreasing_by simp; omega
theorem flat_3 (a b c : UInt8) (r : List UInt8) : flatE (a :: b :: c :: r) = fourOf [a, b, c] ++ flatE r := by rw [flatE]; rfl
theorem flat_2 (a b : UInt8) : flatE [a, b] = fourOf [a, b] := by rw [flatE]; show fourOf [a, b] ++ flatE [] = _; rw [flatE, List.append_nil]
theorem flat_1 (a : UInt8) : flatE [a] = fourOf [a] := by rw [flatE]; show fourOf [a] ++ flatE [] = _; rw [flatE, List.append_nil]
theorem bit_next (a b c : UInt8) (r : List UInt8) (k : Nat) : bitAt (a :: b :: c :: r) (24 + k) = bitAt r k := by
  unfold bitAt
  have e1 : (24 + k) / 8 = k / 8 + 1 + 1 + 1 := by omega
  have e2 : (24 + k) % 8 = k % 8 := by omega
  have e3 : (24 + k < 8 * (a :: b :: c :: r).length) = (k < 8 * r.length) := by simp only [List.length_cons, eq_iff_iff]; omega
  simp only [e1, e2, e3, List.getD_cons_succ]
theorem six_next (a b c : UInt8) (r : List UInt8) (k : Nat) : sixAt (a :: b :: c :: r) (24 + k) = sixAt r k := by
  unfold sixAt
  rw [show 24 + k + 1 = 24 + (k + 1) by omega, show 24 + k + 2 = 24 + (k + 2) by omega, show 24 + k + 3 = 24 + (k + 3) by omega, show 24 + k + 4 = 24 + (k + 4) by omega, show 24 + k + 5 = 24 + (k + 5) by omega]
  simp only [bit_next]
theorem bit_0 (a : UInt8) (r : List UInt8) {k : Nat} (h : k < 8) : bitAt (a :: r) k = a.toNat / 2 ^ (7 - k) % 2 := by
  unfold bitAt
  rw [if_pos (by simp; omega), show k / 8 = 0 by omega, show k % 8 = k by omega]; rfl
theorem bit_1 (a b : UInt8) (r : List UInt8) {k : Nat} (h : k < 8) : bitAt (a :: b :: r) (8 + k) = b.toNat / 2 ^ (7 - k) % 2 := by
  unfold bitAt
  rw [if_pos (by simp; omega), show (8 + k) / 8 = 1 by omega, show (8 + k) % 8 = k by omega]; rfl
theorem bit_2 (a b c : UInt8) (r : List UInt8) {k : Nat} (h : k < 8) : bitAt (a :: b :: c :: r) (16 + k) = c.toNat / 2 ^ (7 - k) % 2 := by
  unfold bitAt
  rw [if_pos (by simp; omega), show (16 + k) / 8 = 2 by omega, show (16 + k) % 8 = k by omega]; rfl
theorem bit_end (l : List UInt8) {k : Nat} (h : 8 * l.length ≤ k) : bitAt l k = 0 := if_neg (by omega)
theorem six_a (a : UInt8) (r : List UInt8) : sixAt (a :: r) 0 = a.toNat / 4 := by
  have ha := a.toNat_lt
  unfold sixAt
  rw [bit_0 a r (by decide), bit_0 a r (by decide), bit_0 a r (by decide), bit_0 a r (by decide), bit_0 a r (by decide), bit_0 a r (by decide)]
  simp only [Nat.zero_add, Nat.reduceSub, Nat.reducePow]
  omega
theorem six_b (a b : UInt8) (r : List UInt8) : sixAt (a :: b :: r) 6 = a.toNat % 4 * 16 + b.toNat / 16 := by
  have ha := a.toNat_lt
  have hb := b.toNat_lt
  unfold sixAt
  rw [bit_0 a (b :: r) (by decide), bit_0 a (b :: r) (by decide), show 6 + 2 = 8 + 0 from rfl, bit_1 a b r (by decide), show 6 + 3 = 8 + 1 from rfl, bit_1 a b r (by decide), show 6 + 4 = 8 + 2 from rfl, bit_1 a b r (by decide), show 6 + 5 = 8 + 3 from rfl, bit_1 a b r (by decide)]
  simp only [Nat.reduceAdd, Nat.reduceSub, Nat.reducePow, Nat.sub_zero, Nat.div_one]
  omega
theorem six_c (a b c : UInt8) (r : List UInt8) : sixAt (a :: b :: c :: r) 12 = b.toNat % 16 * 4 + c.toNat / 64 := by
  have hb := b.toNat_lt
  have hc := c.toNat_lt
  unfold sixAt
  rw [show 12 = 8 + 4 from rfl, bit_1 a b (c :: r) (by decide), show 8 + 4 + 1 = 8 + 5 from rfl, bit_1 a b (c :: r) (by decide), show 8 + 4 + 2 = 8 + 6 from rfl, bit_1 a b (c :: r) (by decide), show 8 + 4 + 3 = 8 + 7 from rfl, bit_1 a b (c :: r) (by decide), show 8 + 4 + 4 = 16 + 0 from rfl, bit_2 a b c r (by decide), show 8 + 4 + 5 = 16 + 1 from rfl, bit_2 a b c r (by decide)]
  simp only [Nat.reduceSub, Nat.reducePow, Nat.sub_zero, Nat.div_one]
  omega
theorem six_d (a b c : UInt8) (r : List UInt8) : sixAt (a :: b :: c :: r) 18 = c.toNat % 64 := by
  have hc := c.toNat_lt
  unfold sixAt
  rw [show 18 = 16 + 2 from rfl, bit_2 a b c r (by decide), show 16 + 2 + 1 = 16 + 3 from rfl, bit_2 a b c r (by decide), show 16 + 2 + 2 = 16 + 4 from rfl, bit_2 a b c r (by decide), show 16 + 2 + 3 = 16 + 5 from rfl, bit_2 a b c r (by decide), show 16 + 2 + 4 = 16 + 6 from rfl, bit_2 a b c r (by decide), show 16 + 2 + 5 = 16 + 7 from rfl, bit_2 a b c r (by decide)]
  simp only [Nat.reduceSub, Nat.reducePow, Nat.sub_zero, Nat.div_one]
  omega
theorem six_a1 (a : UInt8) : sixAt [a] 6 = a.toNat % 4 * 16 := by
  have ha := a.toNat_lt
  unfold sixAt
  rw [bit_0 a [] (by decide), bit_0 a [] (by decide), bit_end [a] (by simp), bit_end [a] (by simp), bit_end [a] (by simp), bit_end [a] (by simp)]
  simp only [Nat.reduceAdd, Nat.reduceSub, Nat.reducePow, Nat.div_one]
  omega
theorem six_b1 (a b : UInt8) : sixAt [a, b] 12 = b.toNat % 16 * 4 := by
  have hb := b.toNat_lt
  unfold sixAt
  rw [show 12 = 8 + 4 from rfl, bit_1 a b [] (by decide), show 8 + 4 + 1 = 8 + 5 from rfl, bit_1 a b [] (by decide), show 8 + 4 + 2 = 8 + 6 from rfl, bit_1 a b [] (by decide), show 8 + 4 + 3 = 8 + 7 from rfl, bit_1 a b [] (by decide), bit_end [a, b] (by simp), bit_end [a, b] (by simp)]
  simp only [Nat.reduceSub, Nat.reducePow, Nat.sub_zero, Nat.div_one]
  omega
theorem map_4 (f : Nat → UInt8) : (List.range 4).map f = [f 0, f 1, f 2, f 3] := by simp [List.range_succ]
theorem map_3 (f : Nat → UInt8) : (List.range 3).map f = [f 0, f 1, f 2] := by simp [List.range_succ]
theorem map_2 (f : Nat → UInt8) : (List.range 2).map f = [f 0, f 1] := by simp [List.range_succ]
theorem raw_1 (a : UInt8) : rawL [a] = [letterAt (sixAt [a] 0), letterAt (sixAt [a] 6)] := by
  have e : (8 * [a].length + 5) / 6 = 2 := by simp
  unfold rawL
  rw [e, map_2]
theorem raw_2 (a b : UInt8) : rawL [a, b] = [letterAt (sixAt [a, b] 0), letterAt (sixAt [a, b] 6), letterAt (sixAt [a, b] 12)] := by
  have e : (8 * [a, b].length + 5) / 6 = 3 := by simp
  unfold rawL
  rw [e, map_3]
theorem raw_3 (a b c : UInt8) (r : List UInt8) : rawL (a :: b :: c :: r) = fourOf [a, b, c] ++ rawL r := by
  unfold rawL
  have e : (8 * (a :: b :: c :: r).length + 5) / 6 = 4 + (8 * r.length + 5) / 6 := by simp only [List.length_cons]; omega
  rw [e, List.range_add, List.map_append, List.map_map, four_3, map_4]
  refine congr (congrArg HAppend.hAppend ?_) ?_
  · simp only [Nat.mul_zero, Nat.mul_one, Nat.reduceMul]
    rw [six_a, six_b, six_c, six_d]
  · refine List.map_congr_left fun j _ => ?_
    show letterAt (sixAt (a :: b :: c :: r) (6 * (4 + j))) = _
    rw [show 6 * (4 + j) = 24 + 6 * j by omega, six_next]
theorem pad_four {x : List UInt8} (h : x.length = 4) (s : List UInt8) : padL (x ++ s) = x ++ padL s := by
  unfold padL
  rw [List.length_append, h, show (4 + s.length) % 4 = s.length % 4 by omega, List.append_assoc]
theorem pad_raw : ∀ (k : Nat) (l : List UInt8), l.length ≤ k → padL (rawL l) = flatE l
  | _, [], _ => by rw [flatE]; rfl
  | 0, _ :: _, h => by simp at h
  | _ + 1, [a], _ => by
    rw [flat_1, four_1, raw_1, six_a, six_a1]
    rfl
  | _ + 1, [a, b], _ => by
    rw [flat_2, four_2, raw_2, six_a, six_b, six_b1]
    rfl
  | k + 1, a :: b :: c :: r, h => by
    rw [raw_3, pad_four (four_len _), flat_3, pad_raw k r (by simp at h; omega)]
theorem flat_app : ∀ (k : Nat) (m b : List UInt8), m.length = 3 * k → flatE (m ++ b) = flatE m ++ flatE b ∧ (flatE m).length = 4 * k
  | 0, m, b, h => by
    have : m = [] := List.eq_nil_of_length_eq_zero h
    subst this
    rw [flatE]; exact ⟨rfl, rfl⟩
  | k + 1, m, b, h => by
    match m, h with
    | x :: y :: z :: r, h =>
      obtain ⟨h1, h2⟩ := flat_app k r b (by simp at h; omega)
      rw [show (x :: y :: z :: r) ++ b = x :: y :: z :: (r ++ b) from rfl, flat_3, flat_3, h1, List.append_assoc, List.length_append, four_len, h2]
      exact ⟨rfl, by omega⟩
theorem flat_len : ∀ (k : Nat) (l : List UInt8), l.length ≤ k → (flatE l).length = 4 * ((l.length + 2) / 3)
  | _, [], _ => by rw [flatE]; rfl
  | 0, _ :: _, h => by simp at h
  | _ + 1, [a], _ => by rw [flat_1, four_len]; simp
  | _ + 1, [a, b], _ => by rw [flat_2, four_len]; simp
  | k + 1, a :: b :: c :: r, h => by
    rw [flat_3, List.length_append, four_len, flat_len k r (by simp at h; omega)]
    simp only [List.length_cons]; omega
/-- a last line -/
theorem enc_short : ∀ (k : Nat) (l : List UInt8) (n : Nat), l.length ≤ k → l ≠ [] → n + (flatE l).length ≤ 76 → encGo l n = flatE l ++ [10]
  | _, [], _, _, h, _ => absurd rfl h
  | 0, _ :: _, _, h, _, _ => by simp at h
  | _ + 1, [a], n, _, _, _ => by rw [encGo, flat_1]; show fourOf [a] ++ _ ++ encGo [] _ = _; rw [encGo, if_pos (.inr rfl), List.append_nil]
  | _ + 1, [a, b], n, _, _, _ => by rw [encGo, flat_2]; show fourOf [a, b] ++ _ ++ encGo [] _ = _; rw [encGo, if_pos (.inr rfl), List.append_nil]
  | k + 1, a :: b :: c :: r, n, h, _, hn => by
    rw [flat_3, List.length_append, four_len] at hn
    rw [encGo, flat_3]
    show fourOf [a, b, c] ++ (if (n + 4) % 76 = 0 ∨ r = [] then [10] else []) ++ encGo r (n + 4) = _
    by_cases hr : r = []
    · subst hr
      rw [if_pos (.inr rfl), encGo, flatE]; simp
    · have hp : 0 < (flatE r).length := by
        rw [flat_len r.length r (Nat.le_refl _)]
        have := List.length_pos_iff.2 hr
        omega
      rw [if_neg (by rintro (e | e); · omega
                     · exact hr e), enc_short k r (n + 4) (by simp at h; omega) hr (by omega)]
      simp
theorem line_flat : ∀ (k : Nat) (l : List UInt8), l.length ≤ k → lineGo (flatE l) = encL l
  | 0, l, h => by
    have : l = [] := List.eq_nil_of_length_eq_zero (by omega)
    subst this
    unfold encL
    rw [flatE, encGo, lineGo]; rfl
  | k + 1, l, h => by
    by_cases h57 : l.length ≤ 57
    · have hl : (flatE l).length ≤ 76 := by rw [flat_len l.length l (Nat.le_refl _)]; omega
      rw [lineGo, if_neg (by omega)]
      by_cases h0 : l = []
      · subst h0
        unfold encL
        rw [flatE, encGo]; rfl
      · have hne : flatE l ≠ [] := fun e => by
          have := flat_len l.length l (Nat.le_refl _)
          rw [e] at this
          have := List.length_pos_iff.2 h0
          simp at *
          omega
        rw [if_neg hne]
        exact (enc_short l.length l 0 (Nat.le_refl _) h0 (by omega)).symm
    · have e : l = l.take 57 ++ l.drop 57 := (List.take_append_drop _ _).symm
      have ht : (l.take 57).length = 57 := by rw [List.length_take]; omega
      have hd : (l.drop 57).length = l.length - 57 := List.length_drop
      obtain ⟨f1, f2⟩ := flat_app 19 (l.take 57) (l.drop 57) (by omega)
      rw [← e] at f1
      have hdl : 0 < (flatE (l.drop 57)).length := by rw [flat_len _ _ (Nat.le_refl _), hd]; omega
      have hen : encL l = encL (l.take 57) ++ encL (l.drop 57) := by
        conv => lhs; rw [e]
        exact enc_line _ _ ht
      have h1 : encL (l.take 57) = flatE (l.take 57) ++ [10] := enc_short 57 (l.take 57) 0 (by omega) (fun e => by rw [e] at ht; simp at ht) (by omega)
      rw [hen, h1, ← line_flat k (l.drop 57) (by omega), f1]
      conv => lhs; rw [lineGo]
      rw [if_pos (by rw [List.length_append]; omega), show 76 = (flatE (l.take 57)).length by omega, List.take_left, List.drop_left]
/-- bit by bit it is the same -/
theorem letters_same (l : List UInt8) : lineGo (padL (rawL l)) = encL l := by rw [pad_raw l.length l (Nat.le_refl _), line_flat l.length l (Nat.le_refl _)]
/-! ### read -/
/-- the document's reading: none where a letter is none -/
def refDec : List UInt8 → Nat → Nat → List UInt8 → Option (List UInt8)
  | [], _, _, out => some out
  | c :: r, n, bits, out => if c = 61 then some out else if c = 10 then refDec r n bits out else match idxOf c with
    | none => none
    | some k => if 8 ≤ bits + 6 then refDec r ((n * 64 + k) % 16777216) (bits + 6 - 8) (out ++ [UInt8.ofNat ((n * 64 + k) % 16777216 / 2 ^ (bits + 6 - 8))]) else refDec r ((n * 64 + k) % 16777216) (bits + 6) out
theorem idx_lt {c : UInt8} {k : Nat} (h : idxOf c = some k) : k < 64 := by
  unfold idxOf at h
  exact (List.findIdx?_eq_some_iff_findIdx_eq.1 h).1
theorem ref_dec : ∀ (s : List UInt8) (n m bits : Nat) (out o : List UInt8), bits < 8 → bits % 2 = 0 → n < 16777216 → n % 2 ^ bits = m → refDec s n bits out = some o → decGo (s.filter (· ≠ 10)) m bits out = o
  | [], _, _, _, _, _, _, _, _, _, h => by
    rw [refDec] at h
    injection h with h
  | c :: r, n, m, bits, out, o, hb, hev, hn, hm, h => by
    rw [refDec] at h
    by_cases h61 : c = 61
    · rw [if_pos h61] at h
      injection h with h
      subst h61
      show decGo (61 :: r.filter (· ≠ 10)) m bits out = o
      rw [dec_stop, h]
    · rw [if_neg h61] at h
      by_cases h10 : c = 10
      · rw [if_pos h10] at h
        subst h10
        show decGo (r.filter (· ≠ 10)) m bits out = o
        exact ref_dec r n m bits out o hb hev hn hm h
      · rw [if_neg h10] at h
        have hf : (c :: r).filter (· ≠ 10) = c :: r.filter (· ≠ 10) := by rw [List.filter_cons, if_pos (by simpa using h10)]
        rw [hf, decGo]
        cases hi : idxOf c with
        | none => rw [hi] at h; cases h
        | some k =>
          rw [hi] at h
          have hk := idx_lt hi
          simp only at h ⊢
          by_cases h8 : 8 ≤ bits + 6
          · rw [if_pos h8] at h
            rw [if_pos h8]
            have hcase : bits = 2 ∨ bits = 4 ∨ bits = 6 := by omega
            have e1 : (n * 64 + k) % 16777216 % 2 ^ (bits + 6 - 8) = (m * 64 + k) % 2 ^ (bits + 6 - 8) := by
              rcases hcase with rfl | rfl | rfl <;> simp only [Nat.reduceAdd, Nat.reduceSub, Nat.reducePow] at hm ⊢ <;> omega
            have e2 : UInt8.ofNat ((n * 64 + k) % 16777216 / 2 ^ (bits + 6 - 8)) = UInt8.ofNat ((m * 64 + k) / 2 ^ (bits + 6 - 8)) := by
              have : (n * 64 + k) % 16777216 / 2 ^ (bits + 6 - 8) % 256 = (m * 64 + k) / 2 ^ (bits + 6 - 8) % 256 := by
                rcases hcase with rfl | rfl | rfl <;> simp only [Nat.reduceAdd, Nat.reduceSub, Nat.reducePow, Nat.div_one] at hm ⊢ <;> omega
              exact UInt8.toNat_inj.1 (by simpa using this)
            rw [← e2]
            exact ref_dec r _ _ _ _ o (by omega) (by omega) (Nat.mod_lt _ (by decide)) e1 h
          · rw [if_neg h8] at h
            rw [if_neg h8]
            have hb0 : bits = 0 := by omega
            subst hb0
            have hm0 : m = 0 := by rw [← hm]; exact Nat.mod_one n
            subst hm0
            refine ref_dec r _ _ _ _ o (by omega) (by omega) (Nat.mod_lt _ (by decide)) ?_ h
            simp only [Nat.reduceAdd, Nat.reducePow]
            omega
theorem ref_none : ∀ (s : List UInt8) (n bits : Nat) (out : List UInt8), refDec s n bits out = none → ∃ c ∈ s, c ≠ 61 ∧ c ≠ 10 ∧ idxOf c = none
  | [], _, _, _, h => by rw [refDec] at h; cases h
  | c :: r, n, bits, out, h => by
    rw [refDec] at h
    by_cases h61 : c = 61
    · rw [if_pos h61] at h; cases h
    · rw [if_neg h61] at h
      by_cases h10 : c = 10
      · rw [if_pos h10] at h
        obtain ⟨d, hd, q⟩ := ref_none r _ _ _ h
        exact ⟨d, List.mem_cons_of_mem _ hd, q⟩
      · rw [if_neg h10] at h
        cases hi : idxOf c with
        | none => exact ⟨c, List.mem_cons_self .., h61, h10, hi⟩
        | some k =>
          rw [hi] at h
          simp only at h
          split at h
          · obtain ⟨d, hd, q⟩ := ref_none r _ _ _ h
            exact ⟨d, List.mem_cons_of_mem _ hd, q⟩
          · obtain ⟨d, hd, q⟩ := ref_none r _ _ _ h
            exact ⟨d, List.mem_cons_of_mem _ hd, q⟩
theorem enc_chars : ∀ (k : Nat) (l : List UInt8) (n : Nat), l.length ≤ k → ∀ c ∈ encGo l n, c = 61 ∨ c = 10 ∨ idxOf c ≠ none
  | _, [], n, _, c, hc => by rw [encGo] at hc; cases hc
  | 0, _ :: _, _, h, _, _ => by simp at h
  | k + 1, x :: r, n, h, c, hc => by
    rw [encGo] at hc
    rcases List.mem_append.1 hc with hc | hc
    · rcases List.mem_append.1 hc with hc | hc
      · unfold fourOf at hc
        obtain ⟨i, _, rfl⟩ := List.mem_map.1 hc
        split
        · exact .inl rfl
        · exact .inr (.inr (by rw [idx_letter _ (Nat.mod_lt _ (by decide))]; simp))
      · split at hc
        · exact .inr (.inl (List.mem_singleton.1 hc))
        · cases hc
    · exact enc_chars k _ _ (by simp at h ⊢; omega) c hc
/-- what the document reads of a text is what the program reads -/
theorem read_same (s : List UInt8) : match refDec s 0 0 [] with
    | none => encL (decL s) ≠ s
    | some o => o = decL s := by
  cases h : refDec s 0 0 [] with
  | none =>
    obtain ⟨c, hc, h1, h2, h3⟩ := ref_none _ _ _ _ h
    intro e
    rw [← e] at hc
    rcases enc_chars _ _ _ (Nat.le_refl _) c hc with q | q | q
    · exact h1 q
    · exact h2 q
    · exact q h3
  | some o => exact (ref_dec s 0 0 0 [] o (by decide) (by decide) (by decide) rfl h).symm
end Go.Proofs.YtnekhaacapdmfaaDoor
namespace Go.Proofs.YtnekhaacapdmfaaDoor
open Go.RowKit

theorem filter_nl_no {s : List UInt8} (h : ∀ k : Nat, s[k]? ≠ some 10) : s.filter (· ≠ 10) = s := List.filter_eq_self.2 fun c hc => by
  obtain ⟨i, hi⟩ := List.getElem?_of_mem hc
  have := h i
  rw [hi] at this
  simpa using this
theorem repl_filter : ∀ (n : Nat) (s : List UInt8), s.length ≤ n → Lib.replaceK [10] [] (Lib.count s [10]) s = s.filter (· ≠ 10)
  | n, s, hn => by
    have hidx := Lib.index_one s 10
    by_cases hm : Lib.index s [10] = -1
    · rw [Lib.count_miss hm, Lib.replaceK]
      exact (filter_nl_no (Lib.indexByte_none (hidx ▸ hm))).symm
    · have hge := Lib.index_ge s [10]
      obtain ⟨i, hi⟩ : ∃ i : Nat, Lib.index s [10] = i := ⟨(Lib.index s [10]).toNat, by omega⟩
      obtain ⟨q1, q2⟩ := Lib.indexByte_some (hidx ▸ hi)
      have hil := (List.getElem?_eq_some_iff.1 q1).1
      match n, hn with
      | 0, hn => omega
      | n + 1, hn =>
        rw [Lib.count_hit (by simp) hi, Nat.add_comm, Lib.replaceK_hit _ _ _ _ i hi, repl_filter n _ (by rw [List.length_drop]; simp; omega)]
        have e : s = s.take i ++ 10 :: s.drop (i + 1) := by
          conv => lhs; rw [← List.take_append_drop i s, drop_eq q1]
        conv => rhs; rw [e]
        rw [List.filter_append, List.append_nil, filter_nl_no (s := s.take i) (fun k hk => by
          rw [List.getElem?_take] at hk
          split at hk
          · rename_i hki; exact q2 k hki hk
          · cases hk)]
        simp
theorem replace_nl (s : List UInt8) : Lib.replaceAll s [10] [] = s.filter (· ≠ 10) := by
  unfold Lib.replaceAll Lib.replace
  rw [if_neg (by decide)]
  have : Lib.replaceNum s [10] (-1) = Lib.count s [10] := by unfold Lib.replaceNum; rw [if_pos (.inl (by decide))]
  rw [this]
  exact repl_filter s.length s (Nat.le_refl _)
theorem idx_fin : ∀ n : Fin 256, Lib.indexByte letters (UInt8.ofNat n.1) = match idxOf (UInt8.ofNat n.1) with
    | none => -1
    | some k => (k : Int) := by decide +kernel
theorem idx_byte (c : UInt8) : Lib.indexByte letters c = match idxOf c with
    | none => -1
    | some k => (k : Int) := by
  have := idx_fin ⟨c.toNat, c.toNat_lt⟩
  simpa using this
theorem letters_data : lettersB.data.toList = letters := rfl
theorem or_six {n k : Nat} (hn : n < 64) (hk : k < 64) : bits .or .i64 ((n : Int) * 64) (k : Int) = ((n * 64 + k : Nat) : Int) := by
  have h1 := bits_or_i64 (n * 64) k (by omega) (by omega)
  rw [show ((n * 64 : Nat) : Int) = (n : Int) * 64 by omega] at h1
  rw [h1]
  congr 1
  have := Nat.two_pow_add_eq_or_of_lt (i := 6) (b := k) hk n
  rw [show (64 : Nat) = 2 ^ 6 by decide, Nat.mul_comm, ← this]
theorem and_low (n m : Nat) (h : n < 9223372036854775808) (hm : m ≤ 8) : bits .and .i64 (n : Int) ((2 ^ m - 1 : Nat) : Int) = ((n % 2 ^ m : Nat) : Int) := by
  have hp : 2 ^ m ≤ 256 := Nat.pow_le_pow_right (n := 2) (by decide) hm
  rw [bits_and_i64 n (2 ^ m - 1) h (by omega), Nat.and_two_pow_sub_one_eq_mod]
theorem elemOk_byte : ElemOk Tryd.prog 22 5 1 := elemOk_of Tryd.underlying22 (z := .int .u8 0) (b := 1) (by kernel_rfl) rfl (by decide)
/-- what Encode, Decode answer -/
def encodeR (l : List UInt8) : ByteArray := if 40000 < l.length then ByteArray.empty else toB (encL l)
def encFault (l : List UInt8) : Int := if 40000 < l.length then 3 else 0
def decFault (s : ByteArray) : Int := if (decL s.data.toList).length ≤ 40000 ∧ encL (decL s.data.toList) = s.data.toList then 0 else 5
def decodeR (s : ByteArray) : List UInt8 := if decFault s = 0 then decL s.data.toList else []

set_option maxHeartbeats 1000000 in
set_option maxRecDepth 100000 in
theorem Encode_any (l : List UInt8) (v : Value) (w : World) (h : Rdv w Never v l) :
    Calls Tryd.prog 22 #[v] w fun e w' => e = .returned (.tuple #[.string (encodeR l), errV (encFault l)]) ∧ Chg Never w w' := by
  have hv := h
  obtain ⟨a, cap, rfl, h1, h2, h3⟩ := rdv_slice h
  unfold maxLen at h2
  by_cases hl : 40000 < l.length
  · have HR : Hid (encodeR l = ByteArray.empty) := if_pos hl
    have HF : Hid (encFault l = 3) := if_pos hl
    go_enter Tryd.func22, Tryd.ntmps22
    go_wp2_with fail
    go_ret2
    exact ⟨by rw [HR.out, HF.out]; rfl, Chg.refl _ _⟩
  · have HR : Hid (encodeR l = toB (encL l)) := if_neg hl
    have HF : Hid (encFault l = 0) := if_neg hl
    go_enter Tryd.func22, Tryd.ntmps22
    go_wp2_with fail
    refine (encode_any l _ _ hv (by omega)).mono ?_
    rintro e w1 ⟨rfl, hc⟩
    go_wp2_with fail
    go_ret2
    exact ⟨by rw [HR.out, HF.out]; rfl, hc⟩

theorem enc_len_le : ∀ (k : Nat) (l : List UInt8) (n : Nat), l.length ≤ k → (encGo l n).length ≤ 5 * l.length
  | _, [], n, _ => by rw [encGo]; simp
  | 0, _ :: _, _, h => by simp at h
  | k + 1, x :: r, n, h => by
    have ih := enc_len_le k ((x :: r).drop 3) (n + 4) (by simp at h ⊢; omega)
    rw [encGo, List.length_append, List.length_append, four_len]
    have h2 : (if (n + 4) % 76 = 0 ∨ (x :: r).drop 3 = [] then [(10 : UInt8)] else []).length ≤ 1 := by split <;> simp
    rw [List.length_drop] at ih
    simp only [List.length_cons] at ih ⊢
    omega
theorem str_nums (l : List UInt8) : strOfNums (l.map fun b => (b.toNat : Int)) = toB l := by
  unfold strOfNums toB
  rw [List.map_map]
  congr 2
  conv => rhs; rw [← List.map_id l]
  exact List.map_congr_left fun b _ => by simp
theorem bytes_nums (l : List UInt8) : Lib.bytesOf (l.map fun b => (b.toNat : Int)) = l := by
  have := congrArg (fun b : ByteArray => b.data.toList) (str_nums l)
  rw [toB_data] at this
  exact this

theorem conv_bytes2 {w : World} {s : ByteArray} (hs : s.size ≤ maxLen) : ∃ (a : Addr) (c : Nat) (w' : World),
    (convert 9 22 (.string s)).run Tryd.prog w = .ok (.slice (some a) s.size c) w' ∧ Chg Never w w' ∧ Rdv w' (Old w.heap.size) (.slice (some a) s.size c) s.data.toList := by
  obtain ⟨c, o, h1, h2⟩ := conv_bytes (w := w) hs
  exact ⟨_, c, _, h1, (Chg.refl Never w).drew.alloc o, h2⟩
set_option maxHeartbeats 2000000 in
set_option maxRecDepth 100000 in
theorem Decode_any (s : ByteArray) (w : World) (hs : s.size ≤ 10000000) (m : Int) (hm : w.cell? ⟨1, 0, none⟩ = some (.int .i64 m)) :
    Calls Tryd.prog 24 #[.string s] w fun e w' => ∃ r, e = .returned (.tuple #[r, errV (decFault s)]) ∧ Chg Never w w' ∧ Rdv w' (Old w.heap.size) r (decodeR s) := by
  obtain ⟨f, hf⟩ : ∃ f, s.data.toList.filter (· ≠ 10) = f := ⟨_, rfl⟩
  have hfl : f.length ≤ s.size := by rw [← hf, Lib.size_eq]; exact List.length_filter_le _ _
  have HD : Hid (decL s.data.toList = decGo f 0 0 []) := by unfold Hid decL; rw [hf]
  have hrep : Lib.replaceAll s.data.toList (⟨#[10]⟩ : ByteArray).data.toList (⟨#[]⟩ : ByteArray).data.toList = f := by rw [← hf]; exact replace_nl _
  go_enter Tryd.func24, Tryd.ntmps24
  go_wp2_with fail
  refine (Tryd.strings_ReplaceAll s ⟨#[10]⟩ ⟨#[]⟩ m _ (by omega) hm (by decide) (by show s.size + _ * 0 ≤ _; omega)).mono ?_
  rintro e w1 ⟨rfl, hb1⟩
  have hw : Chg Never w w1 := Chg.of_below hb1
  rw [hrep]
  clear hb1 hrep hf
  obtain ⟨sb, hsb⟩ : ∃ sb : ByteArray, (⟨f.toArray⟩ : ByteArray) = sb := ⟨_, rfl⟩
  have hsf : Hid (sb.data.toList = f) := by unfold Hid; rw [← hsb]
  have hss : Hid (sb.size = f.length) := by unfold Hid; rw [Lib.size_eq, hsf.out]
  have hsl : sb.size ≤ 10000000 := by have := hss.out; omega
  rw [hsb]
  clear hsb
  go_wp2_with fail
  go_loopw [5, 6, 7, 14] (fun o nv bv i wr => ∃ (N b k : Nat) (L : List UInt8), nv = .int .i64 N ∧ bv = .int .i64 b ∧ i = .int .i64 k ∧ k ≤ sb.size ∧ (b = 0 ∨ b = 2 ∨ b = 4 ∨ b = 6) ∧ N < 2 ^ b ∧ L.length ≤ k ∧ Chg Never w wr ∧ Own 5 wr (Old w.heap.size) o L ∧ Hid (decGo (f.drop k) N b L = decGo f 0 0 [])) (fun _ _ _ i _ => sb.size - (intOf i).toNat)
  case atStart => exact ⟨0, 0, 0, [], rfl, rfl, rfl, Nat.zero_le _, .inl rfl, by decide, Nat.le_refl _, hw, own_nil _ _ _, rfl⟩
  case round =>
    clear hw
    obtain ⟨N, b, k, L, rfl, rfl, rfl, hk, hb, hN, hL, hw, hown, hR⟩ := hrel
    rename World => wr
    by_cases hlt : k < sb.size
    · have hfk : Hid (f.drop k = sb[k] :: f.drop (k + 1)) := by
        rw [Hid, ← hsf.out]
        exact drop_eq (by rw [Array.getElem?_toList, Array.getElem?_eq_getElem hlt]; rfl)
      obtain ⟨c, hc⟩ : ∃ c, sb[k] = c := ⟨_, rfl⟩
      have hix := idx_byte c
      rw [hc] at hfk
      cases hic : idxOf c with
      | none =>
        rw [hic] at hix
        have hLL : Hid (decL s.data.toList = L) := by
          rw [Hid, HD.out, ← hR.out, hfk.out, decGo, hic]
        have hi2 : Lib.indexByte lettersB.data.toList ((c.toNat : Int)).toNat.toUInt8 = -1 := by
          rw [letters_data, show ((c.toNat : Int)).toNat.toUInt8 = c by simp]; exact hix
        clear hix hR hN hb hic hfk
        go_wp2_with fail
        refine (Tryd.strings_IndexByte lettersB (c.toNat : Int) _).mono ?_
        rintro e w' ⟨rfl, rfl⟩
        rw [hi2]
        clear hi2 hc
        have hv := hown.rdv
        obtain ⟨ao, capo, rfl, o1, o2, _⟩ := rdv_slice hv
        unfold maxLen at o2
        by_cases hlong : 40000 < L.length
        · have HF : Hid (decFault s = 5) := by unfold Hid decFault; rw [hLL.out, if_neg (by rintro ⟨h, _⟩; omega)]
          have HO : Hid (decodeR s = []) := by unfold Hid decodeR; rw [HF.out, if_neg (by decide)]
          clear hown
          go_wp2_with fail
          go_ret2
          exact ⟨_, by rw [HF.out]; rfl, hw, by rw [HO.out]; exact rdv_nil _ _⟩
        · have t40 : decide ((40000 : Int) < (L.length : Int)) = false := decide_eq_false (by omega)
          go_wp2_with fail
          refine (encode_any L _ _ (hv.sub (fun _ _ h => h.elim)) (by omega)).mono ?_
          rintro e w2 ⟨rfl, hc2⟩
          have hw2 := hw.trans hc2
          have hown2 := hown.never hc2
          have hel := enc_len_le L.length L 0 (Nat.le_refl _)
          obtain ⟨a1, c1, w5, hrun1, hc5, hr1⟩ := conv_bytes2 (w := w2) (s := toB (encL L)) (by rw [Lib.size_eq, toB_data]; unfold maxLen encL; omega)
          obtain ⟨a2, c2, w6, hrun2, hc6, hr2⟩ := conv_bytes2 (w := w5) (s := s) (by unfold maxLen; omega)
          have hcv1 := conv_str (hr1.never hc6)
          have hcv2 := conv_str hr2
          rw [toB_data] at hcv1
          have hw3 : Chg Never w w6 := (hw2.trans hc5).trans hc6
          have hown3 := hown2.never (hc5.trans hc6)
          clear hc5 hc6
          clear hel hr1 hr2 hv hw hown hc2 hown2 hw2
          go_wp2_with fail
          refine (Tryd.bytes_Equal _ _ ((encL L).map fun b => (b.toNat : Int)) (s.data.toList.map fun b => (b.toNat : Int)) _ (by rw [str_nums]; exact hcv1) (by rw [str_nums]; exact hcv2)).mono ?_
          rintro e w4 ⟨rfl, rfl⟩
          rw [bytes_nums, bytes_nums]
          clear hcv1 hcv2 hrun1 hrun2
          by_cases hsame : encL L = s.data.toList
          · have HF : Hid (decFault s = 0) := by unfold Hid decFault; rw [hLL.out, if_pos ⟨by omega, hsame⟩]
            have HO : Hid (decodeR s = L) := by unfold Hid decodeR; rw [HF.out, if_pos rfl, hLL.out]
            have ts : (encL L == s.data.toList) = true := by simp [hsame]
            clear hsame
            rw [ts]
            have hr := hown3.rdv
            clear hown3
            go_wp2_with fail
            go_ret2
            exact ⟨_, by rw [HF.out]; rfl, hw3, by rw [HO.out]; exact hr⟩
          · have HF : Hid (decFault s = 5) := by unfold Hid decFault; rw [hLL.out, if_neg (by rintro ⟨_, h⟩; exact hsame h)]
            have HO : Hid (decodeR s = []) := by unfold Hid decodeR; rw [HF.out, if_neg (by decide)]
            have ts : (encL L == s.data.toList) = false := by simp [hsame]
            clear hsame hown3
            rw [ts]
            go_wp2_with fail
            go_ret2
            exact ⟨_, by rw [HF.out]; rfl, hw3, by rw [HO.out]; exact rdv_nil _ _⟩
      | some q =>
        rw [hic] at hix
        have hq64 := idx_lt hic
        have hi2 : Lib.indexByte lettersB.data.toList ((c.toNat : Int)).toNat.toUInt8 = (q : Int) := by
          rw [letters_data, show ((c.toNat : Int)).toNat.toUInt8 = c by simp]; exact hix
        have hR2 : Hid ((if 8 ≤ b + 6 then decGo (f.drop (k + 1)) ((N * 64 + q) % 2 ^ (b + 6 - 8)) (b + 6 - 8) (L ++ [UInt8.ofNat ((N * 64 + q) / 2 ^ (b + 6 - 8))]) else decGo (f.drop (k + 1)) (N * 64 + q) (b + 6) L) = decGo f 0 0 []) := by
          rw [Hid, ← hR.out, hfk.out, decGo, hic]
        clear hix hR hic hfk
        have hN64 : N < 64 := by rcases hb with rfl | rfl | rfl | rfl <;> omega
        have hor := or_six hN64 hq64
        have hwr : wrap64 ((N : Int) * 64) = (N : Int) * 64 := by unfold wrap64; omega
        go_wp2_with fail
        refine (Tryd.strings_IndexByte lettersB (c.toNat : Int) _).mono ?_
        rintro e w' ⟨rfl, rfl⟩
        rw [hi2]
        clear hi2 hc
        rcases hb with rfl | rfl | rfl | rfl
        · have hR3 : Hid (decGo (f.drop (k + 1)) (N * 64 + q) 6 L = decGo f 0 0 []) := by have := hR2.out; rw [if_neg (by decide)] at this; exact this
          go_wp2_with fail
          go_roundw
          case rel => exact ⟨N * 64 + q, 6, k + 1, L, by first | rfl | (congr 1), rfl, by go_num, by omega, .inr (.inr (.inr rfl)), by omega, by omega, hw, hown, hR3.out⟩
          case measure => simp [intOf]; omega
        · have hR3 : Hid (decGo (f.drop (k + 1)) ((N * 64 + q) % 1) 0 (L ++ [UInt8.ofNat ((N * 64 + q) / 1)]) = decGo f 0 0 []) := by have := hR2.out; rw [if_pos (by decide)] at this; exact this
          have hlow : bits .and .i64 ((N : Int) * 64 + (q : Int)) (1 - 1) = (((N * 64 + q) % 1 : Nat) : Int) := by
            have := and_low (N * 64 + q) 0 (by omega) (by decide)
            rw [show ((N * 64 + q : Nat) : Int) = (N : Int) * 64 + (q : Int) by omega] at this
            exact this
          have hyv : ((UInt8.ofNat ((N * 64 + q) / 1)).toNat : Int) = (N : Int) * 64 + (q : Int) := by
            rw [UInt8.toNat_ofNat']
            omega
          go_wp2_with (at_builtin; refine wpList_push (by rfl) _ _ 22 (by rfl) elemOk_byte (O := Old w.heap.size) (l := L) (y := UInt8.ofNat ((N * 64 + q) / 1)) (by rfl) (by rfl) (by simp) hown (by show _ = _; rw [hyv]) (old_lt hw) (by omega) ?_; intro v' w7 hown2 hc7 _)
          have hw2 := own_step hw hown hc7
          clear hc7 hown hw hor hwr hyv
          go_wp2_with fail
          go_roundw
          case rel => exact ⟨(N * 64 + q) % 1, 0, k + 1, L ++ [UInt8.ofNat ((N * 64 + q) / 1)], by first | rfl | (congr 1), rfl, by go_num, by omega, .inl rfl, by omega, by simp; omega, hw2, hown2, hR3.out⟩
          case measure => simp [intOf]; omega
        · have hR3 : Hid (decGo (f.drop (k + 1)) ((N * 64 + q) % 4) 2 (L ++ [UInt8.ofNat ((N * 64 + q) / 4)]) = decGo f 0 0 []) := by have := hR2.out; rw [if_pos (by decide)] at this; exact this
          have hlow : bits .and .i64 ((N : Int) * 64 + (q : Int)) (4 - 1) = (((N * 64 + q) % 4 : Nat) : Int) := by
            have := and_low (N * 64 + q) 2 (by omega) (by decide)
            rw [show ((N * 64 + q : Nat) : Int) = (N : Int) * 64 + (q : Int) by omega] at this
            exact this
          have hyv : ((UInt8.ofNat ((N * 64 + q) / 4)).toNat : Int) = ((N : Int) * 64 + (q : Int)) / 4 := by
            rw [UInt8.toNat_ofNat']
            omega
          go_wp2_with (at_builtin; refine wpList_push (by rfl) _ _ 22 (by rfl) elemOk_byte (O := Old w.heap.size) (l := L) (y := UInt8.ofNat ((N * 64 + q) / 4)) (by rfl) (by rfl) (by simp) hown (by show _ = _; rw [hyv]) (old_lt hw) (by omega) ?_; intro v' w7 hown2 hc7 _)
          have hw2 := own_step hw hown hc7
          clear hc7 hown hw hor hwr hyv
          go_wp2_with fail
          go_roundw
          case rel => exact ⟨(N * 64 + q) % 4, 2, k + 1, L ++ [UInt8.ofNat ((N * 64 + q) / 4)], by first | rfl | (congr 1), rfl, by go_num, by omega, .inr (.inl rfl), by omega, by simp; omega, hw2, hown2, hR3.out⟩
          case measure => simp [intOf]; omega
        · have hR3 : Hid (decGo (f.drop (k + 1)) ((N * 64 + q) % 16) 4 (L ++ [UInt8.ofNat ((N * 64 + q) / 16)]) = decGo f 0 0 []) := by have := hR2.out; rw [if_pos (by decide)] at this; exact this
          have hlow : bits .and .i64 ((N : Int) * 64 + (q : Int)) (16 - 1) = (((N * 64 + q) % 16 : Nat) : Int) := by
            have := and_low (N * 64 + q) 4 (by omega) (by decide)
            rw [show ((N * 64 + q : Nat) : Int) = (N : Int) * 64 + (q : Int) by omega] at this
            exact this
          have hyv : ((UInt8.ofNat ((N * 64 + q) / 16)).toNat : Int) = ((N : Int) * 64 + (q : Int)) / 16 := by
            rw [UInt8.toNat_ofNat']
            omega
          go_wp2_with (at_builtin; refine wpList_push (by rfl) _ _ 22 (by rfl) elemOk_byte (O := Old w.heap.size) (l := L) (y := UInt8.ofNat ((N * 64 + q) / 16)) (by rfl) (by rfl) (by simp) hown (by show _ = _; rw [hyv]) (old_lt hw) (by omega) ?_; intro v' w7 hown2 hc7 _)
          have hw2 := own_step hw hown hc7
          clear hc7 hown hw hor hwr hyv
          go_wp2_with fail
          go_roundw
          case rel => exact ⟨(N * 64 + q) % 16, 4, k + 1, L ++ [UInt8.ofNat ((N * 64 + q) / 16)], by first | rfl | (congr 1), rfl, by go_num, by omega, .inr (.inr (.inl rfl)), by omega, by simp; omega, hw2, hown2, hR3.out⟩
          case measure => simp [intOf]; omega
    · have hLL : Hid (decL s.data.toList = L) := by
        rw [Hid, HD.out, ← hR.out, List.drop_of_length_le (by have := hss.out; omega), decGo]
      clear hR hN hb
      have hv := hown.rdv
      obtain ⟨ao, capo, rfl, o1, o2, _⟩ := rdv_slice hv
      unfold maxLen at o2
      by_cases hlong : 40000 < L.length
      · have HF : Hid (decFault s = 5) := by unfold Hid decFault; rw [hLL.out, if_neg (by rintro ⟨h, _⟩; omega)]
        have HO : Hid (decodeR s = []) := by unfold Hid decodeR; rw [HF.out, if_neg (by decide)]
        clear hown
        go_wp2_with fail
        go_ret2
        exact ⟨_, by rw [HF.out]; rfl, hw, by rw [HO.out]; exact rdv_nil _ _⟩
      · have t40 : decide ((40000 : Int) < (L.length : Int)) = false := decide_eq_false (by omega)
        go_wp2_with fail
        refine (encode_any L _ _ (hv.sub (fun _ _ h => h.elim)) (by omega)).mono ?_
        rintro e w2 ⟨rfl, hc2⟩
        have hw2 := hw.trans hc2
        have hown2 := hown.never hc2
        have hel := enc_len_le L.length L 0 (Nat.le_refl _)
        obtain ⟨a1, c1, w5, hrun1, hc5, hr1⟩ := conv_bytes2 (w := w2) (s := toB (encL L)) (by rw [Lib.size_eq, toB_data]; unfold maxLen encL; omega)
        obtain ⟨a2, c2, w6, hrun2, hc6, hr2⟩ := conv_bytes2 (w := w5) (s := s) (by unfold maxLen; omega)
        have hcv1 := conv_str (hr1.never hc6)
        have hcv2 := conv_str hr2
        rw [toB_data] at hcv1
        have hw3 : Chg Never w w6 := (hw2.trans hc5).trans hc6
        have hown3 := hown2.never (hc5.trans hc6)
        clear hc5 hc6
        clear hel hr1 hr2 hv hw hown hc2 hown2 hw2
        go_wp2_with fail
        refine (Tryd.bytes_Equal _ _ ((encL L).map fun b => (b.toNat : Int)) (s.data.toList.map fun b => (b.toNat : Int)) _ (by rw [str_nums]; exact hcv1) (by rw [str_nums]; exact hcv2)).mono ?_
        rintro e w4 ⟨rfl, rfl⟩
        rw [bytes_nums, bytes_nums]
        clear hcv1 hcv2 hrun1 hrun2
        by_cases hsame : encL L = s.data.toList
        · have HF : Hid (decFault s = 0) := by unfold Hid decFault; rw [hLL.out, if_pos ⟨by omega, hsame⟩]
          have HO : Hid (decodeR s = L) := by unfold Hid decodeR; rw [HF.out, if_pos rfl, hLL.out]
          have ts : (encL L == s.data.toList) = true := by simp [hsame]
          clear hsame
          rw [ts]
          have hr := hown3.rdv
          clear hown3
          go_wp2_with fail
          go_ret2
          exact ⟨_, by rw [HF.out]; rfl, hw3, by rw [HO.out]; exact hr⟩
        · have HF : Hid (decFault s = 5) := by unfold Hid decFault; rw [hLL.out, if_neg (by rintro ⟨_, h⟩; exact hsame h)]
          have HO : Hid (decodeR s = []) := by unfold Hid decodeR; rw [HF.out, if_neg (by decide)]
          have ts : (encL L == s.data.toList) = false := by simp [hsame]
          clear hsame hown3
          rw [ts]
          go_wp2_with fail
          go_ret2
          exact ⟨_, by rw [HF.out]; rfl, hw3, by rw [HO.out]; exact rdv_nil _ _⟩
end Go.Proofs.YtnekhaacapdmfaaDoor
namespace Go.Proofs.YtnekhaacapdmfaaDoor
open Go.RowKit

def sixN (l : List UInt8) (i : Nat) : Nat → Nat
  | 0 => 0
  | t + 1 => sixN l i t * 2 + bitAt l (i + t)
theorem bit_lt (l : List UInt8) (k : Nat) : bitAt l k < 2 := by
  unfold bitAt
  split
  · exact Nat.mod_lt _ (by decide)
  · decide
theorem sixN_lt (l : List UInt8) (i : Nat) : ∀ t, sixN l i t < 2 ^ t
  | 0 => by simp [sixN]
  | t + 1 => by
    have h1 := sixN_lt l i t
    have h2 := bit_lt l (i + t)
    rw [sixN, Nat.pow_succ]
    omega
theorem sixN_6 (l : List UInt8) (i : Nat) : sixN l i 6 = sixAt l i := by
  simp [sixN, sixAt]
def rawN (l : List UInt8) (j : Nat) : List UInt8 := (List.range j).map fun j => letterAt (sixAt l (6 * j))
theorem rawN_step (l : List UInt8) (j : Nat) : rawN l (j + 1) = rawN l j ++ [letterAt (sixAt l (6 * j))] := by
  unfold rawN
  rw [List.range_succ, List.map_append]; rfl
theorem rawN_full (l : List UInt8) : rawN l ((8 * l.length + 5) / 6) = rawL l := rfl
theorem rawN_len (l : List UInt8) (j : Nat) : (rawN l j).length = j := by simp [rawN]

theorem bit8 : ∀ x : Fin 256, ∀ r : Fin 8, (bits .and .u8 ((x.1 : Int) / 2 ^ r.1) 1 == 1) = (x.1 / 2 ^ r.1 % 2 == 1) := by decide +kernel
theorem bit_eq {l : List UInt8} {k : Nat} {x : UInt8} (hk : k < 8 * l.length) (hx : l[k / 8]? = some x) : bitAt l k = x.toNat / 2 ^ (7 - k % 8) % 2 := by
  unfold bitAt
  rw [if_pos hk, List.getD_eq_getElem?_getD, hx]; rfl
theorem bit_test {l : List UInt8} {k : Nat} {x : UInt8} (hk : k < 8 * l.length) (hx : l[k / 8]? = some x) : (bits .and .u8 ((x.toNat : Int) / 2 ^ (7 - k % 8)) 1 == 1) = (bitAt l k == 1) := by
  rw [bit_eq hk hx]
  exact bit8 ⟨x.toNat, x.toNat_lt⟩ ⟨7 - k % 8, by omega⟩
theorem extract_fin : ∀ k : Fin 64, lettersB.extract k.1 (k.1 + 1) = toB [letterAt k.1] := by decide +kernel

theorem letter_slice {N : Nat} (hN : N < 64) (w : World) : (Instr.slice 9 (.string lettersB) (some (.int .i64 (N : Int))) (some (.int .i64 ((N : Int) + 1))) none).run Tryd.prog w = .ok (.string (toB [letterAt N])) w := by
  rw [run_slice_string_if (h := Tryd.underlying9), if_pos ⟨by omega, by rw [letters_size]; omega⟩, if_pos ⟨by omega, by omega⟩, ← extract_fin ⟨N, hN⟩]
  rfl

theorem pad_step {X : List UInt8} (h : X.length % 4 ≠ 0) : padL (X ++ [61]) = padL X := by
  unfold padL
  rw [List.append_assoc, List.length_append, List.length_singleton]
  congr 1
  have e : (4 - X.length % 4) % 4 = (4 - (X.length + 1) % 4) % 4 + 1 := by omega
  rw [e, List.replicate_succ]; rfl
theorem pad_done {X : List UInt8} (h : X.length % 4 = 0) : padL X = X := by
  unfold padL
  rw [h]; simp
theorem toB_size (X : List UInt8) : (toB X).size = X.length := by rw [Lib.size_eq, toB_data]
theorem toB_extract (X : List UInt8) (a b : Nat) : (toB X).extract a b = toB ((X.drop a).take (b - a)) := by
  apply ByteArray.ext
  apply Array.toList_inj.1
  rw [Lib.extract_data, toB_data, toB_data]
def padLeft : Value → Nat
  | .string b => (4 - b.size % 4) % 4
  | _ => 0
def strLen : Value → Nat
  | .string b => b.size
  | _ => 0

set_option maxHeartbeats 1000000 in
set_option maxRecDepth 100000 in
theorem refLetters_any (l : List UInt8) (v : Value) (w : World) (h : Rdv w Never v l) (hl : l.length ≤ 1000000) :
    Calls Tryd.prog 38 #[v] w fun e w' => e = .returned (.string (toB (encL l))) ∧ w = w' := by
  obtain ⟨a, cap, rfl, h1, h2, h3⟩ := rdv_slice h
  unfold maxLen at h2
  go_enter Tryd.func38, Tryd.ntmps38
  go_wp2_with fail
  go_loop [3, 4] (fun sv i => ∃ j : Nat, 6 * j ≤ 8 * l.length + 5 ∧ i = .int .i64 ((6 * j : Nat) : Int) ∧ sv = .string (toB (rawN l j))) (fun _ i => 8 * l.length + 6 - (intOf i).toNat)
  case atStart => exact ⟨0, by omega, rfl, rfl⟩
  case round =>
    obtain ⟨j, hj, rfl, rfl⟩ := hrel
    by_cases hlt : 6 * j < 8 * l.length
    · obtain ⟨i, hi⟩ : ∃ i, 6 * j = i := ⟨_, rfl⟩
      have hil : i < 8 * l.length := by omega
      have HI := Lib.hid hi
      rw [hi]
      clear hi hlt
      have hw8 : wrap64 ((l.length : Int) * 8) = (l.length : Int) * 8 := by unfold wrap64; omega
      go_wp2_with fail
      go_loop [5, 6] (fun n k => ∃ t : Nat, t ≤ 6 ∧ k = .int .i64 ((i + t : Nat) : Int) ∧ n = .int .i64 (sixN l i t)) (fun _ k => i + 6 - (intOf k).toNat)
      case atStart => exact ⟨0, by omega, rfl, rfl⟩
      case round =>
        obtain ⟨t, ht, rfl, rfl⟩ := hrel
        have hn := sixN_lt l i t
        by_cases ht6 : t < 6
        · have hn2 : sixN l i t < 64 := Nat.lt_of_lt_of_le hn (Nat.pow_le_pow_right (n := 2) (by decide) (show t ≤ 6 by omega))
          obtain ⟨k, hk⟩ : ∃ k, i + t = k := ⟨_, rfl⟩
          have HK := Lib.hid hk
          have hkt : k < i + 6 := by omega
          rw [hk]
          clear hk
          obtain ⟨N, hN⟩ : ∃ N, sixN l i t = N := ⟨_, rfl⟩
          have HN := Lib.hid hN
          rw [hN] at hn2 ⊢
          clear hN hn
          by_cases hkl : k < 8 * l.length
          · have t1 : decide ((k : Int) < (l.length : Int) * 8) = true := decide_eq_true (by omega)
            have hp : k / 8 < l.length := by omega
            obtain ⟨x, hx⟩ : ∃ x, l[k / 8]? = some x := ⟨l[k / 8], by simp [hp]⟩
            obtain ⟨b, off, rfl, _, _, hcx⟩ := elems_byte h3 hx
            have hbt := bit_test hkl hx
            clear h3 h hx
            cases hb : (bitAt l k == 1) with
            | true =>
              have HS : Hid (sixN l i (t + 1) = N * 2 + 1) := by rw [Hid, sixN, HN.out, HK.out, eq_of_beq hb]
              rw [hb] at hbt
              clear hb
              go_wp2_with fail
              go_round
              case rel => exact ⟨t + 1, by omega, by congr 1; have := HK.out; omega, by rw [HS.out]; congr 1⟩
              case measure => simp [intOf]; omega
            | false =>
              have HS : Hid (sixN l i (t + 1) = N * 2) := by
                have h2 := bit_lt l k
                have h3 : bitAt l k ≠ 1 := by simpa using hb
                rw [Hid, sixN, HN.out, HK.out]; omega
              rw [hb] at hbt
              clear hb
              go_wp2_with fail
              go_round
              case rel => exact ⟨t + 1, by omega, by congr 1; have := HK.out; omega, by rw [HS.out]; congr 1⟩
              case measure => simp [intOf]; omega
          · have t1 : decide ((k : Int) < (l.length : Int) * 8) = false := decide_eq_false (by omega)
            have HS : Hid (sixN l i (t + 1) = N * 2) := by
              rw [Hid, sixN, HN.out, HK.out, bit_end l (by omega)]; rfl
            go_wp2_with fail
            go_round
            case rel => exact ⟨t + 1, by omega, by congr 1; have := HK.out; omega, by rw [HS.out]; congr 1⟩
            case measure => simp [intOf]; omega
        · obtain rfl : t = 6 := by omega
          rw [sixN_6] at hn ⊢
          have hn64 : sixAt l i < 64 := hn
          clear hn
          have HL : Hid (rawN l (j + 1) = rawN l j ++ [letterAt (sixAt l i)]) := by rw [Hid, rawN_step, HI.out]
          obtain ⟨N, hN⟩ : ∃ N, sixAt l i = N := ⟨_, rfl⟩
          rw [hN] at hn64 HL ⊢
          have hsz : ¬ 9223372036854775807 < (toB (rawN l j)).size + (toB [letterAt N]).size := by
            rw [Lib.size_eq, Lib.size_eq, toB_data, toB_data, rawN_len]
            simp only [List.length_singleton]
            have := HI.out
            omega
          have hex := letter_slice hn64
          unfold lettersB at hex
          clear hN
          go_wp2_with fail
          go_round
          case rel => exact ⟨j + 1, by have := HI.out; omega, by congr 1; have := HI.out; omega, by rw [HL.out, toB_append]⟩
          case measure => simp [intOf]; omega
    · have HF : Hid (rawN l j = rawL l) := by
        rw [Hid, ← rawN_full]
        congr 1
        omega
      have hrl : (rawL l).length ≤ 2000000 := by rw [← HF.out, rawN_len]; omega
      rw [HF.out]
      have hw8 : wrap64 ((l.length : Int) * 8) = (l.length : Int) * 8 := by unfold wrap64; omega
      have t0 : ¬ ((6 * j : Nat) : Int) < (l.length : Int) * 8 := by omega
      clear h h3 HF
      go_wp2_with fail
      go_loop [3] (fun sv => ∃ X : List UInt8, sv = .string (toB X) ∧ X.length ≤ 2000000 + 4 ∧ (X.length ≤ 2000000 ∨ X.length % 4 = 0 ∨ X.length + (4 - X.length % 4) ≤ 2000004) ∧ Hid (padL X = padL (rawL l))) (fun sv => padLeft sv)
      case atStart => exact ⟨rawL l, rfl, by omega, .inl hrl, rfl⟩
      case round =>
        obtain ⟨X, rfl, hX, hX2, hP⟩ := hrel
        by_cases h4 : X.length % 4 = 0
        · have t1 : (((toB X).size : Int) % 4 != 0) = false := by rw [toB_size]; simp; omega
          have hP2 : Hid (X = padL (rawL l)) := by rw [Hid, ← hP.out, pad_done h4]
          clear hP h4 hX2
          go_wp2_with fail
          go_loop [3, 7] (fun sv ov => ∃ y o : ByteArray, sv = .string y ∧ ov = .string o ∧ o.size + 2 * y.size ≤ 5000000 ∧ Hid (o.data.toList ++ lineGo y.data.toList = lineGo X)) (fun sv _ => strLen sv)
          case atStart => exact ⟨toB X, ⟨#[]⟩, rfl, rfl, by rw [toB_size]; show 0 + _ ≤ _; omega, by rw [Hid, toB_data]; rfl⟩
          case round =>
            obtain ⟨y, o, rfl, rfl, hyo, hL⟩ := hrel
            have hyl : Hid (y.data.toList.length = y.size) := (Lib.size_eq y).symm
            by_cases h76 : 76 < y.size
            · have hL2 : Hid ((o ++ y.extract 0 76 ++ ⟨#[10]⟩ : ByteArray).data.toList ++ lineGo (y.extract 76 y.size).data.toList = lineGo X) := by
                rw [Hid, ← hL.out, bytes_append, bytes_append, Lib.extract_data, Lib.extract_data]
                conv => rhs; rw [lineGo, if_pos (by rw [hyl.out]; exact h76)]
                rw [List.drop_zero, Nat.sub_zero, List.take_of_length_le (l := y.data.toList.drop 76) (by rw [List.length_drop, hyl.out]; exact Nat.le_refl _)]
                simp only [List.append_assoc]
              have hs1 : (y.extract 0 76).size = 76 := by rw [ByteArray.size_extract]; omega
              have hs2 : (y.extract 76 y.size).size = y.size - 76 := by rw [ByteArray.size_extract]; omega
              have hs3 : (o ++ y.extract 0 76 ++ ⟨#[10]⟩ : ByteArray).size = o.size + 77 := by rw [ByteArray.size_append, ByteArray.size_append, hs1]; rfl
              have HS1 := Lib.hid hs1
              have HS2 := Lib.hid hs2
              have HS3 := Lib.hid hs3
              have hs1' : (y.extract 0 76).size ≤ 76 := by omega
              clear hL hs1 hs2 hs3
              go_wp2_with fail
              go_round
              case rel => exact ⟨_, _, rfl, rfl, by have h2 := HS2.out; have h3 := HS3.out; simp only [h2, h3]; omega, hL2.out⟩
              case measure => show (y.extract 76 y.size).size < y.size; rw [HS2.out]; omega
            · by_cases h0 : 0 < y.size
              · have hE : Hid (toB (encL l) = o ++ y ++ ⟨#[10]⟩) := by
                  apply ByteArray.ext
                  apply Array.toList_inj.1
                  rw [toB_data, ← letters_same, ← hP2.out, ← hL.out, lineGo, if_neg (by rw [hyl.out]; exact h76), if_neg (by intro e; have := hyl.out; rw [e] at this; simp at this; omega), bytes_append, bytes_append]
                  simp only [List.append_assoc]
                clear hL
                go_wp2_with fail
                go_ret
                exact ⟨by rw [hE.out]; rfl, rfl⟩
              · have hE : Hid (toB (encL l) = o) := by
                  apply ByteArray.ext
                  apply Array.toList_inj.1
                  rw [toB_data, ← letters_same, ← hP2.out, ← hL.out, lineGo, if_neg (by rw [hyl.out]; exact h76), if_pos (List.eq_nil_of_length_eq_zero (by rw [hyl.out]; omega)), List.append_nil]
                clear hL
                go_wp2_with fail
                go_ret
                exact ⟨by rw [hE.out]; rfl, rfl⟩
        · have t1 : (((toB X).size : Int) % 4 != 0) = true := by rw [toB_size]; simp; omega
          have hP2 : Hid (padL (X ++ [61]) = padL (rawL l)) := by rw [Hid, pad_step h4]; exact hP.out
          have hsz : ¬ 9223372036854775807 < (toB X).size + 1 := by rw [toB_size]; omega
          clear hP
          go_wp2_with fail
          go_round
          case rel => exact ⟨X ++ [61], by rw [toB_append]; rfl, by simp; omega, by simp; omega, hP2.out⟩
          case measure =>
            show (4 - ((toB X) ++ _).size % 4) % 4 < (4 - (toB X).size % 4) % 4
            rw [ByteArray.size_append, toB_size]
            show (4 - (X.length + 1) % 4) % 4 < _
            omega
end Go.Proofs.YtnekhaacapdmfaaDoor
