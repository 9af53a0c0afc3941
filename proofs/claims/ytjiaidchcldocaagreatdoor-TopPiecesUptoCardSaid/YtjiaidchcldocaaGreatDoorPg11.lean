/-
  PARTS: append OF A WHOLE SLICE to one of the call's own; a slice's slice. No program in sight.; THE WALKS OF LAYER 4: hunk.Make, sides, slices.Equal, stands.
-/
import Derived.Test.YtjiaidchcldocaaGreatDoorPg3
import Derived.WalkLawsBesides
import Derived.Test.YtjiaidchcldocaaGreatDoorPg10
set_option linter.unusedVariables false
set_option linter.unusedSimpArgs false
namespace Go.Proofs.YtjiaidchcldocaaGreatDoor
open Go.RowKit

theorem elems_cells {α : Type} [Dat α] {w : World} {O : Nat → Prop} {b off : Nat} {m : List α} (h : Elems w O (some ⟨b, off, none⟩) m) : ∀ k, k ≤ m.length →
    ∃ news : List Value, news.length = k * Dat.n α ∧ (∀ (j : Nat) (u : Value), news[j]? = some u → w.cell? ⟨b, off + j, none⟩ = some u) ∧ (∀ u ∈ news, u.oneCell' = true) ∧
      (∀ (i : Nat) (x : α), i < k → m[i]? = some x → Dat.rd w O ((news.drop (i * Dat.n α)).take (Dat.n α)) x) := by
  intro k
  induction k with
  | zero => intro _; exact ⟨[], by simp, by simp, by simp, fun i x hi => by omega⟩
  | succ k ih =>
    intro hk
    obtain ⟨news, h1, h2, h3, h4⟩ := ih (by omega)
    have hx : m[k]? = some m[k] := by simp
    obtain ⟨b', off', es, he, hb, hcs, hr⟩ := h k m[k] hx
    simp only [Option.some.injEq, Addr.mk.injEq, and_true] at he
    obtain ⟨rfl, rfl⟩ := he
    have hes := Dat.len hr
    refine ⟨news ++ es, by rw [List.length_append, h1, hes, Nat.succ_mul], ?_, ?_, ?_⟩
    · intro j u hj
      rcases Nat.lt_or_ge j news.length with hl | hl
      · rw [List.getElem?_append_left hl] at hj
        exact h2 j u hj
      · rw [List.getElem?_append_right hl] at hj
        have := hcs _ u hj
        rw [show off + k * Dat.n α + (j - news.length) = off + j by omega] at this
        exact this
    · intro u hu
      rcases List.mem_append.1 hu with hu | hu
      · exact h3 u hu
      · exact Dat.one hr u hu
    · intro i x hi hxi
      rcases Nat.lt_or_ge i k with hl | hl
      · have hle : i * Dat.n α + Dat.n α ≤ news.length := by rw [h1, ← Nat.succ_mul]; exact Nat.mul_le_mul_right _ hl
        rw [List.drop_append_of_le_length (by omega), List.take_append_of_le_length (by rw [List.length_drop]; omega)]
        exact h4 i x hl hxi
      · obtain rfl : i = k := by omega
        rw [hx] at hxi
        injection hxi with hxi
        subst hxi
        rw [← h1, List.drop_left, List.take_of_length_le (by omega)]
        exact hr

theorem run_append_empty {P : Program} {t ty e : TypeId} {n : Nat} (hP : ElemOk P t e n) {w : World} {v : Value} {m : Nat} {xs : List Value} (hown : w.ownsRow 0 e n v m xs) (a : Option Addr) (c : Nat) :
    (Builtin.append_ #[t, t] ty #[v, .slice a 0 c]).run P w = .ok v w := by
  obtain ⟨i, z, hi, _⟩ := hP.info
  have ht := hP.ht
  cases a with
  | none =>
    rcases hown.2 with ⟨rfl, rfl⟩ | ⟨g, cap, cur, rfl, _, _, hnc, _⟩
    · simp [Builtin.append_, run_underlying ht, sizeOf, typeInfo, hi, Builtin.lenOf, Builtin.firstCells]
    · simp [Builtin.append_, run_underlying ht, sizeOf, typeInfo, hi, Builtin.lenOf, Builtin.firstCells, hnc, storeCells]
  | some a =>
    rcases hown.2 with ⟨rfl, rfl⟩ | ⟨g, cap, cur, rfl, _, _, hnc, _⟩
    · simp [Builtin.append_, run_underlying ht, sizeOf, typeInfo, hi, Builtin.lenOf, Builtin.firstCells, loadCells, loadCellsFrom]
    · simp [Builtin.append_, run_underlying ht, sizeOf, typeInfo, hi, Builtin.lenOf, Builtin.firstCells, loadCells, loadCellsFrom, hnc, storeCells]

theorem run_many {P : Program} {α : Type} [Dat α] {t ty e : TypeId} (hP : ElemOk P t e (Dat.n α)) {w0 : World} {O : Nat → Prop} {v x : Value} {l m : List α}
    (hown : Own e w0 O v l) (hx : Rdv w0 Never x m) (hd : ∀ cs y, Dat.rd w0 Never cs (y : α) → Dat.rd w0 (fun k => O k ∨ v.ownBlock = some k) cs y) (hO : ∀ k, O k → k < w0.heap.size) (hlen : l.length + m.length ≤ 1000000000) :
    ∃ v' w', (Builtin.append_ #[t, t] ty #[v, x]).run P w0 = .ok v' w' ∧ Own e w' O v' (l ++ m) ∧ Chg (OwnB v) w0 w' := by
  obtain ⟨a, cap, rfl, c1, c2, hel⟩ := rdv_slice hx
  rcases Nat.eq_zero_or_pos m.length with h0 | hpos
  · have : m = [] := List.eq_nil_of_length_eq_zero h0
    subst this
    refine ⟨v, w0, ?_, by rw [List.append_nil]; exact hown, Chg.refl _ _⟩
    obtain ⟨xs, hrow, _⟩ := hown
    exact run_append_empty hP hrow a cap
  · obtain ⟨b, off, rfl⟩ : ∃ b off, a = some ⟨b, off, none⟩ := by
      obtain ⟨b, off, es, ha, _⟩ := hel 0 m[0] (by simp [hpos])
      exact ⟨b, off, ha⟩
    obtain ⟨i, z, hi, hz, hsz, hzs, hby⟩ := hP.info
    obtain ⟨xs, hrow, hb, hels⟩ := id hown
    obtain ⟨news, n1, n2, n3, n4⟩ := elems_cells hel m.length (Nat.le_refl _)
    have hpos' := Dat.pos (α := α)
    have hcells : ∀ j u, news[j]? = some u → w0.cell? ((⟨b, off, none⟩ : Addr).add j) = some u := by
      intro j u hj
      have e1 : (⟨b, off, none⟩ : Addr).add j = ⟨b, off + j, none⟩ := by unfold Addr.add; split <;> simp_all
      rw [e1]
      exact n2 j u hj
    have hbound : (l.length + m.length) * i.bytes ≤ 140737488355328 := by
      have := Nat.mul_le_mul hlen hby
      omega
    obtain ⟨v', w', hrun, hown', hgrow, hnil⟩ := run_append_own (P := P) w0 0 t ty e i z (Dat.n α) i.bytes hP.ht hi hz hsz rfl hzs hpos' v l.length xs hrow
      ⟨b, off, none⟩ m.length cap news n1 hcells n3 (by unfold maxLen; omega) hbound (Nat.zero_le _)
    obtain ⟨kb, hkb, hkb'⟩ := append_block (P := P) w0 0 t ty e i z (Dat.n α) i.bytes hP.ht hi hz hsz rfl v l.length xs hrow
      ⟨b, off, none⟩ m.length cap news n1 hcells n3 (by unfold maxLen; omega) hbound (by omega) hrun
    have hc : Chg (OwnB v) w0 w' := Chg.of_grown hgrow
    have hsub : ∀ k, k < w0.heap.size → (O k ∨ v'.ownBlock = some k) → (O k ∨ v.ownBlock = some k) := by
      rintro k hk (h | h)
      · exact .inl h
      · rw [hkb] at h
        injection h with h
        subst h
        rcases hkb' with h | h
        · exact .inr h
        · omega
    refine ⟨v', w', hrun, ⟨xs ++ news, ?_, ?_, ?_⟩, hc⟩
    · rw [List.length_append]; exact hown'
    · intro k hk ho
      rw [hkb] at hk
      injection hk with hk
      subst hk
      rcases hkb' with h | h
      · exact hb _ h ho
      · exact absurd (hO _ ho) (by omega)
    · intro j y hj
      have hxl : xs.length = l.length * Dat.n α := hrow.1
      rcases Nat.lt_or_ge j l.length with hjl | hjl
      · rw [List.getElem?_append_left hjl] at hj
        have hle : j * Dat.n α + Dat.n α ≤ xs.length := by rw [hxl, ← Nat.succ_mul]; exact Nat.mul_le_mul_right _ hjl
        rw [List.drop_append_of_le_length (by omega), List.take_append_of_le_length (by rw [List.length_drop]; omega)]
        exact Dat.keep (hels j y hj) hc (fun k _ hk => .inr hk) hsub
      · rw [List.getElem?_append_right hjl] at hj
        have hjm := (List.getElem?_eq_some_iff.1 hj).1
        have e1 : (xs ++ news).drop (j * Dat.n α) = news.drop ((j - l.length) * Dat.n α) := by
          have e2 : j * Dat.n α = xs.length + (j - l.length) * Dat.n α := by rw [hxl, ← Nat.add_mul]; congr 1; omega
          rw [e2, List.drop_append]
          simp
        rw [e1]
        exact Dat.keep (hd _ _ (n4 _ y hjm hj)) hc (fun k _ hk => .inr hk) hsub

theorem wpList_many {P : Program} {ops : Array Oper} {rest : List Oper} {o : Oper} {a : Act} {Q : Exit → Act → World → Prop} (hgd : o.guard = none) (s x : Operand) (t : TypeId)
    (ho : o.op = .call { callee := .builtin .append, args := #[s, x], argTypes := #[t, t] }) {α : Type} [Dat α] {e : TypeId} (hP : ElemOk P t e (Dat.n α)) {w0 : World} {O : Nat → Prop} {v u : Value} {l m : List α}
    (hs : a.eval s = v) (hx : a.eval x = u) (hown : Own e w0 O v l) (hu : Rdv w0 Never u m) (hd : ∀ cs y, Dat.rd w0 Never cs (y : α) → Dat.rd w0 (fun k => O k ∨ v.ownBlock = some k) cs y) (hO : ∀ k, O k → k < w0.heap.size) (hlen : l.length + m.length ≤ 1000000000)
    (h : ∀ v' w', Own e w' O v' (l ++ m) → Chg (OwnB v) w0 w' → wpList P ops Q rest (a.put o.dst v') w') :
    wpList P ops Q (o :: rest) a w0 := by
  refine wpList_plain hgd fun K hK => ?_
  obtain ⟨v', w', hrun, h1, h2⟩ := run_many (ty := o.type) hP hown hu hd hO hlen
  unfold Oper.wp execOp
  simp only [ho, resolve, invoke, builtin, Sem.run_bind, Sem.run_pure, Result.andThen_ok, List.map_toArray, List.map_cons, List.map_nil, hs, hx, hrun]
  exact hK _ _ (h v' w' h1 h2)

/-! ### a slice's slice -/
theorem elems_sub {α : Type} [Dat α] {w : World} {O : Nat → Prop} {b off : Nat} {l : List α} (h : Elems w O (some ⟨b, off, none⟩) l) (i k : Nat) : Elems w O (some ⟨b, off + i * Dat.n α, none⟩) ((l.drop i).take k) := by
  intro q x hx
  rw [List.getElem?_take] at hx
  split at hx
  · rw [List.getElem?_drop] at hx
    obtain ⟨b', off', es, he, hb, hcs, hr⟩ := h (i + q) x hx
    simp only [Option.some.injEq, Addr.mk.injEq, and_true] at he
    obtain ⟨rfl, rfl⟩ := he
    refine ⟨b, _, es, rfl, hb, ?_, hr⟩
    rw [Nat.add_assoc, ← Nat.add_mul]
    exact hcs
  · cases hx
/-- 's[i:j]' as a value -/
theorem rdv_sliced {α : Type} [Dat α] {w : World} {O : Nat → Prop} {a : Option Addr} {cap : Nat} {l : List α} (h : Rdv w O (.slice a l.length cap) l) (i j : Nat) (hij : i ≤ j) (hj : j ≤ l.length) :
    Rdv w O (sliced a i j cap (Dat.n α)) ((l.drop i).take (j - i)) := by
  obtain ⟨a', cap', e, h1, h2, h3⟩ := rdv_slice h
  simp only [Value.slice.injEq, true_and] at e
  obtain ⟨rfl, rfl⟩ := e
  have hl : ((l.drop i).take (j - i)).length = j - i := by rw [List.length_take, List.length_drop]; omega
  refine ⟨if cap = i then a else a.map (·.add (i * Dat.n α)), cap - i, by rw [hl]; rfl, by rw [hl]; omega, by omega, ?_⟩
  by_cases hc : cap = i
  · have : (l.drop i).take (j - i) = [] := List.eq_nil_of_length_eq_zero (by rw [hl]; omega)
    rw [this]
    intro q x hx
    simp at hx
  · rw [if_neg hc]
    intro q x hx
    have hq := (List.getElem?_eq_some_iff.1 hx).1
    have hpos : 0 < l.length := by rw [hl] at hq; omega
    obtain ⟨b, off, es, ha, _⟩ := h3 0 l[0] (by simp [hpos])
    subst ha
    have e1 : (some (⟨b, off, none⟩ : Addr)).map (·.add (i * Dat.n α)) = some ⟨b, off + i * Dat.n α, none⟩ := by
      simp only [Option.map_some]
      unfold Addr.add
      split <;> simp_all
    rw [e1]
    exact elems_sub h3 i (j - i) q x hx
theorem sliced_isSlice (a : Option Addr) (i j cap s : Nat) : ∃ b, sliced a i j cap s = .slice b (j - i) (cap - i) := ⟨_, rfl⟩
end Go.Proofs.YtjiaidchcldocaaGreatDoor
namespace Go.Proofs.YtjiaidchcldocaaGreatDoor
open Go.RowKit

def makeFault (a b : List ByteArray) (n : Int) : Int := if checkedFault a b ≠ 0 then checkedFault a b else cutFault (script a b) n
def makeR (a b : List ByteArray) (n : Int) : List Hunk := if checkedFault a b = 0 then cutR (script a b) n else []
theorem make_any (a b : List ByteArray) (n : Int) (v u : Value) (w : World) (ha : Rdv w Never v a) (hb : Rdv w Never u b) (hn : I64 n) :
    Calls Tryz.prog 65 #[v, u, .int .i64 n] w fun e w' => ∃ r, e = .returned (.tuple #[r, errV (makeFault a b n)]) ∧ Chg Never w w' ∧ Rdv w' (Old w.heap.size) r (makeR a b n) := by
  by_cases hz : checkedFault a b = 0
  · have HZ := Lib.hid hz
    have E1 : Hid (makeFault a b n = cutFault (script a b) n) := by unfold Hid makeFault; rw [if_neg (by simp [hz])]
    have E2 : Hid (makeR a b n = cutR (script a b) n) := if_pos hz
    have E3 : Hid (scriptR a b = script a b) := if_pos hz
    clear hz
    go_enter Tryz.func65, Tryz.ntmps65
    go_wp2_with fail
    refine (script_any a b _ _ _ ha hb).mono ?_
    rintro e w1 ⟨r1, rfl, hc1, hr1⟩
    rw [HZ.out, errV_zero]
    rw [E3.out] at hr1
    go_wp2_with fail
    refine (Cut_any (script a b) n _ _ (hr1.sub (fun _ _ h => h.elim)) hn).mono ?_
    rintro e w2 ⟨r2, rfl, hc2, hr2⟩
    go_wp2_with fail
    go_ret2
    exact ⟨r2, by rw [E1.out]; rfl, hc1.trans hc2, by rw [E2.out]; exact hr2.sub (fun k hk h => Nat.lt_of_lt_of_le h hc1.size)⟩
  · have HZ := Lib.hid hz
    have E1 : Hid (makeFault a b n = checkedFault a b) := if_pos hz
    have E2 : Hid (makeR a b n = []) := if_neg hz
    clear hz
    go_enter Tryz.func65, Tryz.ntmps65
    go_wp2_with fail
    refine (script_any a b _ _ _ ha hb).mono ?_
    rintro e w1 ⟨r1, rfl, hc1, hr1⟩
    rw [errV_pos HZ.out]
    go_wp2_with fail
    go_ret2
    exact ⟨.slice none 0 0, by rw [E1.out, errV_pos HZ.out]; rfl, hc1, by rw [E2.out]; exact rdv_nil _ _⟩

theorem sides_any (l : List Mark) (v : Value) (w : World) (h : Rdv w Never v l) (hz : scriptFault l = 0) :
    Calls Tryz.prog 143 #[v] w fun e w' => ∃ r s, e = .returned (.tuple #[r, s, .nilIface]) ∧ Chg Never w w' ∧ Rdv w' (Old w.heap.size) r (oldOf l) ∧ Rdv w' (Old w.heap.size) s (newOf l) := by
  have HZ := Lib.hid hz
  have H1 : Hid (thoseR l 43 = oldOf l) := if_pos hz
  have H2 : Hid (thoseR l 45 = newOf l) := if_pos hz
  clear hz
  go_enter Tryz.func143, Tryz.ntmps143
  go_wp2_with fail
  refine (old_any l _ _ h).mono ?_
  rintro e w1 ⟨r1, rfl, hc1, hr1⟩
  rw [HZ.out, errV_zero]
  rw [H1.out] at hr1
  go_wp2_with fail
  refine (new_any l _ _ (h.never hc1)).mono ?_
  rintro e w2 ⟨r2, rfl, hc2, hr2⟩
  rw [HZ.out, errV_zero]
  rw [H2.out] at hr2
  go_wp2_with fail
  go_ret3
  exact ⟨r1, r2, rfl, hc1.trans hc2, hr1.never hc2, hr2.sub (fun k hk h => Nat.lt_of_lt_of_le h hc1.size)⟩

theorem str_bne_true {x y : ByteArray} (h : x ≠ y) : (x.toList != y.toList) = true := by
  have := str_beq_false h
  simp only [bne, this, Bool.not_false]
theorem equal_any (l m : List ByteArray) (v u : Value) (w : World) (h : Rdv w Never v l) (g : Rdv w Never u m) :
    Calls Tryz.prog 186 #[v, u] w fun e w' => e = .returned (.bool (decide (l = m))) ∧ Chg Never w w' := by
  obtain ⟨a, cap, rfl, h1, h2, h3⟩ := rdv_slice h
  obtain ⟨c, cap', rfl, g1, g2, g3⟩ := rdv_slice g
  unfold maxLen at h2 g2
  by_cases h4 : l.length = m.length
  · have h4' : ((l.length : Int) != m.length) = false := by simp [h4]
    have H4 := Lib.hid h4
    clear h4
    go_enter Tryz.func186, Tryz.ntmps186
    go_wp2
    go_loopw [13] (fun i wr => ∃ k : Nat, k ≤ l.length ∧ i = .int .i64 k ∧ Hid (l.take k = m.take k) ∧ Chg Never w wr) (fun i _ => l.length - (intOf i).toNat)
    case atStart => exact ⟨0, Nat.zero_le _, rfl, by simp [Hid], Chg.refl _ _⟩
    case round =>
      obtain ⟨k, hk, rfl, hf, hc⟩ := hrel
      by_cases hlt : k < l.length
      · obtain ⟨x, hx⟩ : ∃ x, l[k]? = some x := ⟨l[k], by simp [hlt]⟩
        obtain ⟨y, hy⟩ : ∃ y, m[k]? = some y := ⟨m[k]'(by rw [← H4.out]; exact hlt), by simp [H4.out ▸ hlt]⟩
        obtain ⟨b, off, rfl, _, _, hcx, hxs⟩ := elems_str h3 hx
        obtain ⟨b', off', rfl, _, _, hcy, hys⟩ := elems_str g3 hy
        have hcx := hc.cellNever hcx
        have hcy := hc.cellNever hcy
        clear h3 g3 h g
        have hlm : k < m.length := by rw [← H4.out]; exact hlt
        have HX := Lib.hid hx
        have HY := Lib.hid hy
        clear hx hy
        have b1 : (k : Int) < l.length := by omega
        have b2 : (k : Int) < m.length := by omega
        by_cases hxy : x = y
        · subst hxy
          go_wp2
          go_quiet (fail)
          go_wp2
          go_roundw
          case rel => exact ⟨k + 1, by omega, by go_num, take_same hf HX.out HY.out, hc.drewN _⟩
          case measure => simp [intOf]; omega
        · have hne := str_beq_false hxy
          have hne' := str_bne_true hxy
          go_wp2
          go_quiet (fail)
          go_wp2
          go_ret
          exact ⟨by rw [decide_eq_false (ne_of_get HX.out HY.out hxy)]; rfl, hc.drewN _⟩
      · go_wp2
        go_ret
        have E : l = m := by
          have := hf.out
          rwa [List.take_of_length_le (by omega), List.take_of_length_le (by rw [← H4.out]; omega)] at this
        exact ⟨by rw [decide_eq_true E]; rfl, hc⟩
  · have h4' : ((l.length : Int) != m.length) = true := by simp; omega
    go_enter Tryz.func186, Tryz.ntmps186
    go_wp2
    go_ret
    exact ⟨by rw [decide_eq_false (fun e => h4 (by rw [e]))]; rfl, Chg.refl _ _⟩

theorem size_str (w : World) : (sizeOf (Tryz.prog.elem 86)).run Tryz.prog w = .ok 1 w := by kernel_rfl
/-- 'a[i:j]' of texts, as a run -/
theorem slice_str {w0 : World} {O : Nat → Prop} {a : Option Addr} {cap : Nat} {l : List ByteArray} (h : Rdv w0 O (.slice a l.length cap) l) (i j : Nat) (hij : i ≤ j) (hj : j ≤ l.length) :
    ∃ b, (∀ (x y : Int) (w : World), x = i → y = j → (Instr.slice 86 (.slice a l.length cap) (some (.int .i64 x)) (some (.int .i64 y)) none).run Tryz.prog w = .ok (.slice b (j - i) (cap - i)) w) ∧
      (∀ (x : Int) (w : World), x = i → j = l.length → (Instr.slice 86 (.slice a l.length cap) (some (.int .i64 x)) none none).run Tryz.prog w = .ok (.slice b (j - i) (cap - i)) w) ∧
      Rdv w0 O (.slice b (j - i) (cap - i)) ((l.drop i).take (j - i)) := by
  have hr := rdv_sliced h i j hij hj
  obtain ⟨b, hb⟩ := sliced_isSlice a i j cap 1
  obtain ⟨a', cap', e, h1, h2, h3⟩ := rdv_slice h
  simp only [Value.slice.injEq, true_and] at e
  obtain ⟨rfl, rfl⟩ := e
  refine ⟨b, ?_, ?_, hb ▸ hr⟩
  · rintro x y w rfl rfl
    rw [run_slice_lh w 86 a l.length cap (by kernel_rfl) .i64 .i64 _ _ (by omega) (by omega) (by omega), size_str]
    simp only [Result.andThen_ok, Int.toNat_natCast]
    rw [hb]
  · rintro x w rfl rfl
    rw [run_slice_l w 86 a l.length cap (by kernel_rfl) .i64 _ (by omega) (by omega), size_str]
    simp only [Result.andThen_ok, Int.toNat_natCast]
    rw [hb]

theorem stands_any (a l : List ByteArray) (at_ : Int) (v u : Value) (w : World) (ha : Rdv w Never v a) (hl : Rdv w Never u l) (h0 : -1000000 ≤ at_) (h1 : at_ ≤ 1000000) (hla : a.length ≤ 1000000) (hll : l.length ≤ 1000000) :
    Calls Tryz.prog 144 #[v, .int .i64 at_, u] w fun e w' => e = .returned (.bool (standsB a at_ l)) ∧ Chg Never w w' := by
  obtain ⟨b, cap, rfl, _, hcap, _⟩ := rdv_slice ha
  obtain ⟨c, cap', rfl, _, _, _⟩ := rdv_slice hl
  unfold maxLen at hcap
  by_cases c1 : at_ < 0
  · have E : standsB a at_ l = false := by unfold standsB; simp; omega
    rw [E]
    go_enter Tryz.func144, Tryz.ntmps144
    go_wp2_with fail
    go_ret
    exact ⟨rfl, Chg.refl _ _⟩
  · obtain ⟨n, rfl⟩ := Int.eq_ofNat_of_zero_le (show 0 ≤ at_ by omega)
    by_cases c2 : a.length < n + l.length
    · have E : standsB a n l = false := by unfold standsB; simp; omega
      rw [E]
      have t1 : decide ((n : Int) + l.length ≤ a.length) = false := by simp; omega
      go_enter Tryz.func144, Tryz.ntmps144
      go_wp2_with fail
      go_ret
      exact ⟨rfl, Chg.refl _ _⟩
    · have E : Hid (standsB a n l = decide ((a.drop n).take l.length = l)) := by
        unfold Hid standsB
        have e1 : decide ((0 : Int) ≤ n) = true := by simp
        have e2 : decide ((n : Int) + l.length ≤ a.length) = true := by simp; omega
        rw [e1, e2]; simp
      obtain ⟨sb, hrun, _, hsub⟩ := slice_str ha n (n + l.length) (by omega) (by omega)
      have hrun := fun (wx : World) => hrun n ((n : Int) + l.length) wx rfl (by push_cast; rfl)
      rw [show n + l.length - n = l.length by omega] at hrun hsub
      have t1 : decide ((n : Int) + l.length ≤ a.length) = true := by simp; omega
      clear c2
      go_enter Tryz.func144, Tryz.ntmps144
      go_wp2_with fail
      refine (equal_any ((a.drop n).take l.length) l _ _ _ hsub hl).mono ?_
      rintro e w1 ⟨rfl, hc1⟩
      go_wp2_with fail
      go_ret
      exact ⟨by rw [E.out]; rfl, hc1⟩
end Go.Proofs.YtjiaidchcldocaaGreatDoor
