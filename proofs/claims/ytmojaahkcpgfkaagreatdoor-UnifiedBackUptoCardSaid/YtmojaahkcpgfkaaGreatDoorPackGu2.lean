/-
  PARTS: A SLICE THAT THE CALL ITSELF BUILDS BY append ('Own'): kept, pushed onto, read. No program in sight.; THE WALKS OF LAYER 2 over scripts: Check, those, Old, New; the laws' changes and Marks.; THE WALKS: edit.Old, edit.New; the laws' Marks.; THE WALK of edit.Script.; THE WALKS OF LAYER 3: kept, changed, Size, ContainsFunc, one.; THE WALKS OF LAYER 3: one, Check.; THE WALKS OF LAYER 3: Check.; THE WALKS of strings.Builder's methods at a builder of one's own: copyCheck, WriteString, WriteByte.; A BUILDER OF ONE'S OWN STAYS while only new blocks come.; A BOX OF TWO CELLS, and of three (Blk3). No program in sight.; THE WALKS of strings.Builder's methods once more, saying that every block that holds no bytes (but the builder's own) stays.; TEXTS AS LINES, PATHS, in plain Lean (chapter 1).
-/
import Derived.Test.YtmojaahkcpgfkaaGreatDoorPackGu1
import Derived.Laws.StructEq
import Derived.Shelf.Strings.BuilderK
import Derived.Lib.Split
namespace Go.Proofs.YtmojaahkcpgfkaaGreatDoor
open Go.RowKit

theorem own_block_lt {α : Type} [Dat α] {e : TypeId} {w : World} {O : Nat → Prop} {v : Value} {l : List α} (h : Own e w O v l) : ∀ k, v.ownBlock = some k → k < w.heap.size := by
  obtain ⟨xs, h1, _⟩ := h
  exact fun k hk => (h1.lt k hk).2

theorem Own.keep {α : Type} [Dat α] {e : TypeId} {w w' : World} {O O' O'' : Nat → Prop} {v : Value} {l : List α} (h : Own e w O v l) (hc : Chg O' w w')
    (h1 : ∀ k, k < w.heap.size → O' k → O k) (h2 : ∀ k, k < w.heap.size → O'' k → O k) : Own e w' O'' v l := by
  obtain ⟨xs, hx, hb, hel⟩ := h
  have hlt := fun k hk => (hx.lt k hk).2
  refine ⟨xs, ?_, fun k hk ho => hb k hk (h2 k (hlt k hk) ho), ?_⟩
  · refine ⟨hx.1, ?_⟩
    rcases hx.2 with h | ⟨g, cap, cur, rfl, hg, hh, r⟩
    · exact .inl h
    · refine .inr ⟨g, cap, cur, rfl, hg, ?_, r⟩
      rw [hc.block g (hlt g rfl) (fun ho => hb g rfl (h1 g (hlt g rfl) ho))]
      exact hh
  · intro i x hi
    refine Dat.keep (hel i x hi) hc (fun k hk ho => .inl (h1 k hk ho)) ?_
    rintro k hk (ho | ho)
    · exact .inl (h2 k hk ho)
    · exact .inr ho
theorem Own.never {α : Type} [Dat α] {e : TypeId} {w w' : World} {O : Nat → Prop} {v : Value} {l : List α} (h : Own e w O v l) (hc : Chg Never w w') : Own e w' O v l :=
  h.keep hc (fun _ _ h => h.elim) (fun _ _ h => h)

/-- an owned slice reads as any other -/
theorem Own.rdv {α : Type} [Dat α] {e : TypeId} {w : World} {O : Nat → Prop} {v : Value} {l : List α} (h : Own e w O v l) : Rdv w O v l := by
  obtain ⟨xs, hx, hb, hel⟩ := h
  have hlen := hx.1
  rcases hx.2 with ⟨rfl, h0⟩ | ⟨g, cap, cur, rfl, hg, hh, hn, hm, hcs, htake⟩
  · have : l = [] := List.eq_nil_of_length_eq_zero h0
    subst this
    exact rdv_nil _ _
  · refine ⟨some ⟨g, 0, none⟩, cap, rfl, hn, hm, ?_⟩
    intro i x hi
    have hil := (List.getElem?_eq_some_iff.1 hi).1
    have hel' := hel i x hi
    have hel2 : Dat.rd w O _ x := Dat.keep hel' (Chg.refl Never w) (fun _ _ h => h.elim) (fun k _ ho => .inl ho)
    refine ⟨g, 0, _, rfl, hb g rfl, ?_, hel2⟩
    intro j u hj
    have hcell := World.ownsRow.cells hx (g := g) rfl (i * Dat.n α + j) u ?_
    · rw [← hcell]
      unfold Addr.add
      split <;> simp_all
    · rw [List.getElem?_take] at hj
      split at hj
      · rw [List.getElem?_drop] at hj; exact hj
      · cases hj

theorem append_block {P : Program} (w : World) (base : Nat) (t ty e : TypeId) (i : TypeInfo) (z : Value) (size bytes : Nat) (ht : P.underlying t = some (.slice e)) (hi : P.info? e = some i) (hz : i.zero = some z)
    (hsize : i.size = size) (hby : i.bytes = bytes)
    (v : Value) (n : Nat) (xs : List Value) (hown : w.ownsRow base e size v n xs)
    (a : Addr) (m c : Nat) (news : List Value) (hl : news.length = m * size) (hnews : ∀ j u, news[j]? = some u → w.cell? (a.add j) = some u) (h1 : ∀ u ∈ news, u.oneCell' = true)
    (h63 : n + m ≤ maxLen) (hbytes : (n + m) * bytes ≤ 140737488355328) (hm : m ≠ 0) {v' : Value} {w' : World} (hrun : (Builtin.append_ #[t, t] ty #[v, .slice (some a) m c]).run P w = .ok v' w') :
    ∃ k, v'.ownBlock = some k ∧ (v.ownBlock = some k ∨ k = w.heap.size) := by
  subst hsize
  subst hby
  have hsmall : n + m ≤ 9223372036854775807 := by simp only [maxLen] at h63; omega
  rcases hown.2 with ⟨rfl, rfl⟩ | ⟨g, cap, cur, rfl, hbg, hg, hnc, hcm, hcs, htake⟩
  · have hr := run_append_nil (P := P) w t ty e i z ht hi hz a m c news hl hnews (by omega) (by omega) (by have hb := hbytes; simp only [Nat.zero_add] at hb; omega)
    rw [hr] at hrun
    injection hrun with hv _
    subst hv
    exact ⟨_, rfl, .inr rfl⟩
  · by_cases hroom : n + m ≤ cap
    · have hfit : n * i.size + news.length ≤ cur.size := by rw [hl, hcs, ← Nat.add_mul]; exact Nat.mul_le_mul_right _ hroom
      have hr := run_append_room (P := P) w t ty e i ht hi g n cap cur hg a m c news hl hnews h1 hroom hfit
      rw [hr] at hrun
      injection hrun with hv _
      subst hv
      exact ⟨_, rfl, .inl rfl⟩
    · have holds : ∀ j u, xs[j]? = some u → w.cell? ((⟨g, 0, none⟩ : Addr).add j) = some u := hown.cells (g := g) rfl
      have hr := run_append_grow (P := P) w t ty e i z ht hi hz ⟨g, 0, none⟩ n cap xs hown.1 holds a m c news hl hnews (by omega) (by omega) (growslice_fits (by omega) hbytes)
      rw [hr] at hrun
      injection hrun with hv _
      subst hv
      exact ⟨_, rfl, .inr rfl⟩

/-- what a slice's element type asks of the program's table -/
structure ElemOk (P : Program) (t e : TypeId) (n : Nat) : Prop where
  ht : P.underlying t = some (.slice e)
  info : ∃ i z, P.info? e = some i ∧ i.zero = some z ∧ i.size = n ∧ z.cells.size = n ∧ i.bytes ≤ 128

theorem run_push {P : Program} {α : Type} [Dat α] {t ty e : TypeId} (hP : ElemOk P t e (Dat.n α)) {w0 : World} {O : Nat → Prop} {v : Value} {l : List α} {y : α} {es : List Value} (E' : TypeId)
    (hown : Own e w0 O v l) (hy : Dat.rd w0 (fun k => O k ∨ v.ownBlock = some k) es y) (hO : ∀ k, O k → k < w0.heap.size) (hlen : l.length ≤ 1000000000) :
    ∃ v' w', (Builtin.append_ #[t, t] ty #[v, .slice (some ⟨w0.heap.size, 0, none⟩) 1 1]).run P (w0.alloc (.cells es.toArray E')) = .ok v' w' ∧ Own e w' O v' (l ++ [y]) ∧ Chg (OwnB v) w0 w' ∧ (∃ k, v'.ownBlock = some k ∧ (v.ownBlock = some k ∨ w0.heap.size ≤ k)) := by
  obtain ⟨i, z, hi, hz, hsz, hzs, hby⟩ := hP.info
  have hlt := own_block_lt hown
  obtain ⟨xs, hx, hb, hel⟩ := id hown
  have hnl : es.length = 1 * Dat.n α := by rw [Dat.len hy]; omega
  have hpos := Dat.pos (α := α)
  have hcells : ∀ j u, es[j]? = some u → (w0.alloc (.cells es.toArray E')).cell? ((⟨w0.heap.size, 0, none⟩ : Addr).add j) = some u := by
    intro j u hj
    have e1 : (⟨w0.heap.size, 0, none⟩ : Addr).add j = ⟨w0.heap.size, j, none⟩ := by unfold Addr.add; split <;> simp_all
    rw [e1, World.cell?, heap_alloc_new]
    simpa using hj
  have hx' := hx.alloc (.cells es.toArray E')
  have hbound : (l.length + 1) * i.bytes ≤ 140737488355328 := by
    have := Nat.mul_le_mul (show l.length + 1 ≤ 1000000001 by omega) hby
    omega
  obtain ⟨v', w', hrun, hown', hgrow, hnil⟩ := run_append_own (P := P) (w0.alloc (.cells es.toArray E')) 0 t ty e i z (Dat.n α) i.bytes hP.ht hi hz hsz rfl hzs hpos v l.length xs hx'
    ⟨w0.heap.size, 0, none⟩ 1 1 es hnl hcells (Dat.one hy) (by unfold maxLen; omega) hbound (Nat.zero_le _)
  obtain ⟨kb, hkb, hkb'⟩ := append_block (P := P) (w0.alloc (.cells es.toArray E')) 0 t ty e i z (Dat.n α) i.bytes hP.ht hi hz hsz rfl v l.length xs hx'
    ⟨w0.heap.size, 0, none⟩ 1 1 es hnl hcells (Dat.one hy) (by unfold maxLen; omega) hbound (by omega) hrun
  have hkb2 : v.ownBlock = some kb ∨ w0.heap.size ≤ kb := by
    rcases hkb' with h | h
    · exact .inl h
    · right; rw [h]; simp
  have hc : Chg (OwnB v) w0 w' := ((Chg.refl (OwnB v) w0).alloc _).trans' (Chg.of_grown hgrow) (fun k _ hk => hk)
  refine ⟨v', w', hrun, ⟨xs ++ es, ?_, ?_, ?_⟩, hc, kb, hkb, hkb2⟩
  · simpa using hown'
  · intro k hk ho
    rw [hkb] at hk
    injection hk with hk
    subst hk
    rcases hkb2 with h | h
    · exact hb _ h ho
    · exact absurd (hO _ ho) (by omega)
  · have hsub : ∀ k, k < w0.heap.size → (O k ∨ v'.ownBlock = some k) → (O k ∨ v.ownBlock = some k) := by
      rintro k hk (h | h)
      · exact .inl h
      · rw [hkb] at h
        injection h with h
        subst h
        rcases hkb2 with h | h
        · exact .inr h
        · omega
    intro j x hj
    have hxl := hx.1
    rcases Nat.lt_or_ge j l.length with hjl | hjl
    · rw [List.getElem?_append_left hjl] at hj
      have h := Dat.keep (hel j x hj) hc (fun k _ hk => .inr hk) hsub
      have hle : j * Dat.n α + Dat.n α ≤ xs.length := by rw [hxl, ← Nat.succ_mul]; exact Nat.mul_le_mul_right _ hjl
      rw [List.drop_append_of_le_length (by omega), List.take_append_of_le_length (by rw [List.length_drop]; omega)]
      exact h
    · have e : j = l.length := by
        have := (List.getElem?_eq_some_iff.1 hj).1
        simp at this
        omega
      subst e
      simp at hj
      subst hj
      rw [← hxl, List.drop_left, List.take_of_length_le (by omega)]
      exact Dat.keep hy hc (fun k _ hk => .inr hk) hsub

/-- 'out = append(out, y)': y's cells have just been laid in a block of their own -/
theorem wpList_push {P : Program} {ops : Array Oper} {rest : List Oper} {o : Oper} {a : Act} {Q : Exit → Act → World → Prop} (hgd : o.guard = none) (s x : Operand) (t : TypeId)
    (ho : o.op = .call { callee := .builtin .append, args := #[s, x], argTypes := #[t, t] }) {α : Type} [Dat α] {e : TypeId} (hP : ElemOk P t e (Dat.n α)) {w0 : World} {O : Nat → Prop} {v : Value} {l : List α} {y : α} {es : List Value} {E' : TypeId} {B : Nat}
    (hs : a.eval s = v) (hx : a.eval x = .slice (some ⟨B, 0, none⟩) 1 1) (hB : B = w0.heap.size)
    (hown : Own e w0 O v l) (hy : Dat.rd w0 (fun k => O k ∨ v.ownBlock = some k) es y) (hO : ∀ k, O k → k < w0.heap.size) (hlen : l.length ≤ 1000000000)
    (h : ∀ v' w', Own e w' O v' (l ++ [y]) → Chg (OwnB v) w0 w' → (∃ k, v'.ownBlock = some k ∧ (v.ownBlock = some k ∨ w0.heap.size ≤ k)) → wpList P ops Q rest (a.put o.dst v') w') :
    wpList P ops Q (o :: rest) a (w0.alloc (.cells es.toArray E')) := by
  subst hB
  refine wpList_plain hgd fun K hK => ?_
  obtain ⟨v', w', hrun, h1, h2, h3⟩ := run_push (ty := o.type) hP E' hown hy hO hlen
  unfold Oper.wp execOp
  simp only [ho, resolve, invoke, builtin, Sem.run_bind, Sem.run_pure, Result.andThen_ok, List.map_toArray, List.map_cons, List.map_nil, hs, hx, hrun]
  exact hK _ _ (h v' w' h1 h2 h3)

theorem elemOk_of {P : Program} {t e : TypeId} {n b : Nat} {z : Value} (ht : P.underlying t = some (.slice e)) (h : (P.info? e).map (fun i => (i.zero, i.size, i.bytes)) = some (some z, n, b)) (hz : z.cells.size = n) (hb : b ≤ 128) : ElemOk P t e n := by
  obtain ⟨i, h1, h2, h3, h4⟩ := info_parts h
  exact ⟨ht, i, z, h1, h2, h3, hz, by omega⟩

/-- a step that may have changed the call's own row leaves what was there before the call -/
theorem own_step {α : Type} [Dat α] {e : TypeId} {w wr w' : World} {v : Value} {l : List α} (hc : Chg Never w wr) (hown : Own e wr (Old w.heap.size) v l) (hc' : Chg (OwnB v) wr w') : Chg Never w w' := by
  refine hc.trans' hc' ?_
  intro i hi ho
  obtain ⟨xs, _, hb, _⟩ := hown
  exact (hb i ho hi).elim
theorem old_lt {w wr : World} (hc : Chg Never w wr) : ∀ k, Old w.heap.size k → k < wr.heap.size := fun _ hk => Nat.lt_of_lt_of_le hk hc.size
end Go.Proofs.YtmojaahkcpgfkaaGreatDoor
namespace Go.Proofs.YtmojaahkcpgfkaaGreatDoor
open Go.RowKit

theorem edit_check_any (l : List Mark) (v : Value) (w : World) (h : Rdv w Never v l) :
    Calls Tryz.prog 59 #[v] w fun e w' => e = .returned (errV (scriptFault l)) ∧ Chg Never w w' := by
  obtain ⟨a, cap, rfl, h1, h2, h3⟩ := rdv_slice h
  unfold maxLen at h2
  by_cases h4 : 120 < l.length
  · go_enter Tryz.func59, Tryz.ntmps59
    go_wp2
    go_ret
    exact ⟨by simp [scriptFault, h4, errV], Chg.refl _ _⟩
  · go_enter Tryz.func59, Tryz.ntmps59
    go_wp2
    go_loopw [12] (fun i wr => ∃ k : Nat, k ≤ l.length ∧ i = .int .i64 k ∧ Hid (firstOf markFault (l.drop k) = scriptFault l) ∧ Chg Never w wr) (fun i _ => l.length - (intOf i).toNat)
    case atStart => exact ⟨0, Nat.zero_le _, rfl, by simp [Hid, scriptFault, h4], Chg.refl _ _⟩
    case round =>
      obtain ⟨k, hk, rfl, hf, hc⟩ := hrel
      by_cases hlt : k < l.length
      · obtain ⟨x, hx⟩ : ∃ x, l[k]? = some x := ⟨l[k], by simp [hlt]⟩
        obtain ⟨b, off, rfl, _, _, c0, c1, s0, s1, hxs⟩ := elems_mark h3 hx
        have c0 := hc.cellNever c0
        have c1 := hc.cellNever c1
        have hd := Lib.hid (drop_eq hx)
        clear hx h3 h
        obtain ⟨sg, tx⟩ := x
        simp only at c0 c1 s0 s1 hxs
        by_cases hsg : sg = 32 ∨ sg = 45 ∨ sg = 43
        · have hmf : markFault ⟨sg, tx⟩ = lineFault tx := by rcases hsg with e | e | e <;> subst e <;> rfl
          have HM := Lib.hid hmf
          clear hmf
          by_cases hz : lineFault tx = 0
          · rcases hsg with rfl | rfl | rfl
            all_goals
              go_wp2_with (go_at_call 81; refine (one_any _ _ hxs).mono ?_; rintro e w' ⟨rfl, rfl⟩; rw [hz, errV_zero])
              go_roundw
              case rel => exact ⟨k + 1, by omega, by go_num, by have := hf.out; rw [hd.out, firstOf, HM.out, if_pos hz] at this; exact this, hc.alloc _⟩
              case measure => simp [intOf] <;> omega
          · rcases hsg with rfl | rfl | rfl
            all_goals
              go_wp2_with (go_at_call 81; refine (one_any _ _ hxs).mono ?_; rintro e w' ⟨rfl, rfl⟩; rw [errV_pos hz])
              go_ret
              have E : errV (scriptFault l) = errV (lineFault tx) := by rw [← hf.out, hd.out, firstOf, HM.out, if_neg hz]
              exact ⟨by rw [E, errV_pos hz]; rfl, hc.alloc _⟩
        · have t1 : (sg != 32) = true := by simp; omega
          have t2 : (sg != 45) = true := by simp; omega
          have t3 : (sg != 43) = true := by simp; omega
          have hmf : markFault ⟨sg, tx⟩ = 1 := by unfold markFault; rw [if_pos (by simp; omega)]
          have HM := Lib.hid hmf
          clear hmf hsg
          go_wp2_with fail
          go_ret
          have E : errV (scriptFault l) = errV 1 := by rw [← hf.out, hd.out, firstOf, HM.out, if_neg (by decide)]
          exact ⟨by rw [E]; rfl, hc.alloc _⟩
      · go_wp2
        go_ret
        exact ⟨by have := hf.out; rw [List.drop_of_length_le (by omega), firstOf] at this; rw [← this]; rfl, hc⟩

theorem changes_take {l : List Mark} {k : Nat} {x : Mark} (hx : l[k]? = some x) : changes (l.take (k + 1)) = changes (l.take k) + (if x.sign = 32 then 0 else 1) := by
  rw [List.take_add_one, hx]
  unfold changes
  rw [List.filter_append, List.length_append]
  by_cases h : x.sign = 32 <;> simp [h]
theorem changes_le (l : List Mark) : changes l ≤ l.length := List.length_filter_le _ _


theorem elemOk_str : ElemOk Tryz.prog 56 9 1 := elemOk_of Tryz.underlying56 (z := .string ⟨#[]⟩) (b := 16) (by kernel_rfl) rfl (by decide)
theorem elemOk_mark : ElemOk Tryz.prog 40 39 2 := elemOk_of Tryz.underlying40 (z := .agg #[.int .u8 0, .string ⟨#[]⟩]) (b := 24) (by kernel_rfl) rfl (by decide)

theorem those_take {l : List Mark} {no : Int} {k : Nat} {x : Mark} (hx : l[k]? = some x) : those (l.take (k + 1)) no = if x.sign = no then those (l.take k) no else those (l.take k) no ++ [x.text] := by
  rw [List.take_add_one, hx]
  unfold those
  by_cases h : x.sign = no <;> simp [List.filter_append, h]
theorem those_le (l : List Mark) (no : Int) : (those l no).length ≤ l.length := by
  unfold those
  rw [List.length_map]
  exact List.length_filter_le _ _
theorem scriptFault_len {l : List Mark} (h : scriptFault l = 0) : l.length ≤ 120 := by
  unfold scriptFault at h
  by_cases h1 : 120 < l.length
  · simp [h1] at h
  · omega

/-- the lines of a script that may be; of another one none -/
def thoseR (l : List Mark) (no : Int) : List ByteArray := if scriptFault l = 0 then those l no else []

end Go.Proofs.YtmojaahkcpgfkaaGreatDoor
namespace Go.Proofs.YtmojaahkcpgfkaaGreatDoor
open Go.RowKit

theorem mark_stood : Tryz.prog.stoodInHeld 39 = false := by kernel_rfl
theorem mark_guard : Tryz.prog.eqGuardType Tryz.prog.depth 39 = false := by kernel_rfl
theorem mark_fields : Tryz.prog.underlying 39 = some (.struct (Tryz.prog.fieldsOf 39)) := by kernel_rfl
theorem mark_eq (w : World) (sx sy : Int) (tx ty : ByteArray) :
    (Op.equalIn 10000 39 (.agg #[.int .u8 sx, .string tx]) (.agg #[.int .u8 sy, .string ty])).run Tryz.prog w = .ok (sx == sy && tx.toList == ty.toList) w := by
  rw [run_equalIn_struct w 9999 _ _ _ mark_fields mark_stood]
  have hu := Tryz.underlying39
  simp [Program.fieldsOf, hu, Op.eqFields, part, go_sem]
  by_cases h1 : sx = sy <;> by_cases h2 : tx.toList = ty.toList <;> simp [h1, h2]
theorem mark_ne {x y : Mark} (h : x ≠ y) : (x.sign == y.sign && x.text.toList == y.text.toList) = false := by
  obtain ⟨sx, tx⟩ := x
  obtain ⟨sy, ty⟩ := y
  by_cases h1 : sx = sy
  · have h2 : tx ≠ ty := fun e => h (by rw [h1, e])
    simp [str_beq_false h2]
  · simp [h1]

theorem marks_any (l m : List Mark) (v u : Value) (w : World) (h : Rdv w Never v l) (g : Rdv w Never u m) :
    Calls Tryz.prog 54 #[v, u] w fun e w' => e = .returned (.bool (decide (l = m))) ∧ Chg Never w w' := by
  obtain ⟨a, cap, rfl, h1, h2, h3⟩ := rdv_slice h
  obtain ⟨c, cap', rfl, g1, g2, g3⟩ := rdv_slice g
  unfold maxLen at h2 g2
  by_cases h4 : l.length = m.length
  · have h4' : ((l.length : Int) != m.length) = false := by simp [h4]
    have H4 := Lib.hid h4
    clear h4
    go_enter Tryz.func54, Tryz.ntmps54
    go_wp2
    go_loopw [5] (fun i wr => ∃ k : Nat, k ≤ l.length ∧ i = .int .i64 k ∧ Hid (l.take k = m.take k) ∧ Chg Never w wr) (fun i _ => l.length - (intOf i).toNat)
    case atStart => exact ⟨0, Nat.zero_le _, rfl, by simp [Hid], Chg.refl _ _⟩
    case round =>
      obtain ⟨k, hk, rfl, hf, hc⟩ := hrel
      by_cases hlt : k < l.length
      · obtain ⟨x, hx⟩ : ∃ x, l[k]? = some x := ⟨l[k], by simp [hlt]⟩
        obtain ⟨y, hy⟩ : ∃ y, m[k]? = some y := ⟨m[k]'(by rw [← H4.out]; exact hlt), by simp [H4.out ▸ hlt]⟩
        obtain ⟨b, off, rfl, _, _, c0, c1, s0, s1, hxs⟩ := elems_mark h3 hx
        obtain ⟨b', off', rfl, _, _, d0, d1, r0, r1, hys⟩ := elems_mark g3 hy
        have c0 := hc.cellNever c0
        have c1 := hc.cellNever c1
        have d0 := hc.cellNever d0
        have d1 := hc.cellNever d1
        clear h3 g3 h g
        have hlm : k < m.length := by rw [← H4.out]; exact hlt
        have HX := Lib.hid hx
        have HY := Lib.hid hy
        clear hx hy
        have b1 : (k : Int) < l.length := by omega
        have b2 : (k : Int) < m.length := by omega
        have heq := mark_eq
        have hgd := mark_guard
        by_cases hxy : x = y
        · have HXY := Lib.hid hxy
          subst hxy
          obtain ⟨sx, tx⟩ := x
          simp only at c0 c1 d0 d1 s0 s1 r0 r1 hxs hys
          go_wp2
          go_quiet (fail)
          go_wp2
          go_roundw
          case rel => exact ⟨k + 1, by omega, by go_num, take_same hf HX.out HY.out, hc.drewN _⟩
          case measure => simp [intOf] <;> omega
        · have hne := mark_ne hxy
          have HXY := Lib.hid hxy
          obtain ⟨sx, tx⟩ := x
          obtain ⟨sy, ty⟩ := y
          simp only at c0 c1 d0 d1 s0 s1 r0 r1 hxs hys hne
          clear hxy
          go_wp2
          go_quiet (fail)
          go_wp2
          go_ret
          exact ⟨by rw [decide_eq_false (ne_of_get HX.out HY.out HXY.out)]; rfl, hc.drewN _⟩
      · go_wp2
        go_ret
        have E : l = m := by
          have := hf.out
          rwa [List.take_of_length_le (by omega), List.take_of_length_le (by rw [← H4.out]; omega)] at this
        exact ⟨by rw [decide_eq_true E]; rfl, hc⟩
  · have h4' : ((l.length : Int) != m.length) = true := by simp; omega
    go_enter Tryz.func54, Tryz.ntmps54
    go_wp2
    go_ret
    exact ⟨by rw [decide_eq_false (fun e => h4 (by rw [e]))]; rfl, Chg.refl _ _⟩
end Go.Proofs.YtmojaahkcpgfkaaGreatDoor
namespace Go.Proofs.YtmojaahkcpgfkaaGreatDoor
open Go.RowKit

theorem script_keep {l m : List ByteArray} {i k : Nat} {x : ByteArray} (hx : l[i]? = some x) (hy : m[k]? = some x) : script (l.drop i) (m.drop k) = ⟨32, x⟩ :: script (l.drop (i + 1)) (m.drop (k + 1)) := by
  rw [drop_eq hx, drop_eq hy, script, if_pos rfl]
theorem script_take {l m : List ByteArray} {i k : Nat} {x : ByteArray} (hx : l[i]? = some x) (hy : ∀ y, m[k]? = some y → x ≠ y) (h : far (l.drop (i + 1)) (m.drop k) + 1 = far (l.drop i) (m.drop k)) :
    script (l.drop i) (m.drop k) = ⟨45, x⟩ :: script (l.drop (i + 1)) (m.drop k) := by
  rcases Nat.lt_or_ge k m.length with hk | hk
  · have hm : m[k]? = some m[k] := by simp [hk]
    rw [drop_eq hx] at h ⊢
    rw [drop_eq hm] at h ⊢
    rw [script, if_neg (hy _ hm), if_pos h]
  · rw [List.drop_of_length_le hk, drop_eq hx, script]
theorem script_put {l m : List ByteArray} {i k : Nat} {y : ByteArray} (hy : m[k]? = some y) (hx : ∀ x, l[i]? = some x → x ≠ y ∧ far (l.drop (i + 1)) (m.drop k) + 1 ≠ far (l.drop i) (m.drop k)) :
    script (l.drop i) (m.drop k) = ⟨43, y⟩ :: script (l.drop i) (m.drop (k + 1)) := by
  rcases Nat.lt_or_ge i l.length with hi | hi
  · have hl : l[i]? = some l[i] := by simp [hi]
    obtain ⟨h1, h2⟩ := hx _ hl
    rw [drop_eq hl] at h2 ⊢
    rw [drop_eq hy] at h2 ⊢
    rw [script, if_neg h1, if_neg h2]
  · rw [List.drop_of_length_le hi, drop_eq hy, script]

theorem own_step' {α : Type} [Dat α] {e : TypeId} {w wr w' : World} {v : Value} {l : List α} {B : Nat} (hc : Chg Never w wr) (hB : w.heap.size ≤ B) (hown : Own e wr (Old B) v l) (hc' : Chg (OwnB v) wr w') : Chg Never w w' := by
  refine hc.trans' hc' ?_
  intro i hi ho
  obtain ⟨xs, _, hb, _⟩ := hown
  exact (hb i ho (Nat.lt_of_lt_of_le hi hB)).elim
theorem own_not {α : Type} [Dat α] {e : TypeId} {wr : World} {v : Value} {l : List α} {B k : Nat} (hown : Own e wr (Old B) v l) (hk : k < B) : ¬ OwnB v k := by
  obtain ⟨xs, _, hb, _⟩ := hown
  exact fun h => hb k h hk

theorem rd_mark (w : World) (O : Nat → Prop) (sg : Int) (tx : ByteArray) (h0 : 0 ≤ sg) (h1 : sg < 256) (h2 : tx.size ≤ maxLen) : Dat.rd w O [.int .u8 sg, .string tx] (⟨sg, tx⟩ : Mark) := ⟨rfl, h0, h1, h2⟩

def scriptR (l m : List ByteArray) : List Mark := if checkedFault l m = 0 then script l m else []


/-! ### a script of lines that may be, may be -/
theorem linesFault_zero {l : List ByteArray} : linesFault l = 0 ↔ l.length ≤ 60 ∧ ∀ x ∈ l, lineFault x = 0 := by
  unfold linesFault
  by_cases h : 60 < l.length
  · simp [h]; omega
  · simp only [if_neg h, firstOf_zero]
    exact ⟨fun h' => ⟨by omega, h'⟩, fun h' => h'.2⟩
theorem scriptFault_zero {l : List Mark} : scriptFault l = 0 ↔ l.length ≤ 120 ∧ ∀ x ∈ l, markFault x = 0 := by
  unfold scriptFault
  by_cases h : 120 < l.length
  · simp [h]; omega
  · simp only [if_neg h, firstOf_zero]
    exact ⟨fun h' => ⟨by omega, h'⟩, fun h' => h'.2⟩
theorem script_mem : ∀ (n : Nat) (a b : List ByteArray), a.length + b.length = n → (script a b).length ≤ n ∧ ∀ x ∈ script a b, x.text ∈ a ∨ x.text ∈ b := by
  intro n
  induction n using Nat.strongRecOn with
  | _ n ih =>
    intro a b hn
    match a, b with
    | [], [] => rw [script]; simp
    | x :: a, [] =>
      obtain ⟨h1, h2⟩ := ih (n - 1) (by simp only [List.length_cons, List.length_nil] at hn ⊢; omega) a [] (by simp only [List.length_cons, List.length_nil] at hn ⊢; omega)
      rw [script]
      simp only [List.length_cons, List.length_nil] at hn ⊢
      refine ⟨by omega, ?_⟩
      intro y hy
      rcases List.mem_cons.1 hy with rfl | hy
      · simp
      · rcases h2 y hy with h | h <;> simp_all
    | [], y :: b =>
      obtain ⟨h1, h2⟩ := ih (n - 1) (by simp only [List.length_cons, List.length_nil] at hn ⊢; omega) [] b (by simp only [List.length_cons, List.length_nil] at hn ⊢; omega)
      rw [script]
      simp only [List.length_cons, List.length_nil] at hn ⊢
      refine ⟨by omega, ?_⟩
      intro z hz
      rcases List.mem_cons.1 hz with rfl | hz
      · simp
      · rcases h2 z hz with h | h <;> simp_all
    | x :: a, y :: b =>
      simp only [List.length_cons] at hn
      obtain ⟨p1, p2⟩ := ih (n - 2) (by omega) a b (by omega)
      obtain ⟨q1, q2⟩ := ih (n - 1) (by omega) a (y :: b) (by simp only [List.length_cons]; omega)
      obtain ⟨r1, r2⟩ := ih (n - 1) (by omega) (x :: a) b (by simp only [List.length_cons]; omega)
      rw [script]
      split
      · refine ⟨by simp only [List.length_cons]; omega, ?_⟩
        intro z hz
        rcases List.mem_cons.1 hz with rfl | hz
        · simp
        · rcases p2 z hz with h | h <;> simp [h]
      · split
        · refine ⟨by simp only [List.length_cons]; omega, ?_⟩
          intro z hz
          rcases List.mem_cons.1 hz with rfl | hz
          · simp
          · rcases q2 z hz with h | h
            · simp [h]
            · exact .inr h
        · refine ⟨by simp only [List.length_cons]; omega, ?_⟩
          intro z hz
          rcases List.mem_cons.1 hz with rfl | hz
          · simp
          · rcases r2 z hz with h | h
            · exact .inl h
            · simp [h]
theorem script_valid {a b : List ByteArray} (h : checkedFault a b = 0) : scriptFault (script a b) = 0 := by
  obtain ⟨h1, h2⟩ := checkedFault_zero.1 h
  rw [linesFault_zero] at h1 h2
  obtain ⟨s1, s2⟩ := script_mem _ a b rfl
  rw [scriptFault_zero]
  refine ⟨by omega, ?_⟩
  intro x hx
  have hs := script_signs a b x hx
  have ht : lineFault x.text = 0 := by
    rcases s2 x hx with h | h
    · exact h1.2 _ h
    · exact h2.2 _ h
  unfold markFault
  rw [if_neg (by omega), ht]
end Go.Proofs.YtmojaahkcpgfkaaGreatDoor
namespace Go.Proofs.YtmojaahkcpgfkaaGreatDoor
open Go.RowKit

/-- a mark, a hunk as values -/
def markV (m : Mark) : Value := .agg #[.int .u8 m.sign, .string m.text]
def hunkV (h : Hunk) (mv : Value) : Value := .agg #[.int .i64 h.old, .int .i64 h.new, mv]

theorem kept_any (sg : Int) (tx : ByteArray) (w : World) :
    Calls Tryz.prog 83 #[.agg #[.int .u8 sg, .string tx]] w fun e w' => e = .returned (.bool (sg == 32)) ∧ Chg Never w w' := by
  go_enter Tryz.func83, Tryz.ntmps83
  go_wp2
  go_ret
  exact ⟨rfl, by repeat (first | exact Chg.refl _ _ | apply Chg.alloc)⟩
theorem changed_any (sg : Int) (tx : ByteArray) (w : World) :
    Calls Tryz.prog 61 #[.agg #[.int .u8 sg, .string tx]] w fun e w' => e = .returned (.bool (!(sg == 32))) ∧ Chg Never w w' := by
  go_enter Tryz.func61, Tryz.ntmps61
  go_wp2_with (go_at_call 83; refine (kept_any _ _ _).mono ?_; rintro e w1 ⟨rfl, hc1⟩)
  go_ret
  exact ⟨rfl, ((Chg.refl _ _).alloc _).trans hc1⟩

theorem oldN_take {l : List Mark} {k : Nat} {x : Mark} (hx : l[k]? = some x) : oldN (l.take (k + 1)) = oldN (l.take k) + (if x.sign = 43 then 0 else 1) := by
  unfold oldN
  rw [those_take hx]
  by_cases h : x.sign = 43 <;> simp [h]
theorem newN_take {l : List Mark} {k : Nat} {x : Mark} (hx : l[k]? = some x) : newN (l.take (k + 1)) = newN (l.take k) + (if x.sign = 45 then 0 else 1) := by
  unfold newN
  rw [those_take hx]
  by_cases h : x.sign = 45 <;> simp [h]
theorem oldN_le (l : List Mark) : oldN l ≤ l.length := those_le _ _
theorem newN_le (l : List Mark) : newN l ≤ l.length := those_le _ _

theorem size_any (h : Hunk) (mv : Value) (w : World) (hm : Rdv w Never mv h.marks) :
    Calls Tryz.prog 43 #[.agg #[.int .i64 h.old, .int .i64 h.new, mv]] w fun e w' => e = .returned (.tuple #[.int .i64 (oldN h.marks), .int .i64 (newN h.marks)]) ∧ Chg Never w w' := by
  obtain ⟨o, n, l⟩ := h
  simp only at hm ⊢
  obtain ⟨a, cap, rfl, h1, h2, h3⟩ := rdv_slice hm
  unfold maxLen at h2
  go_enter Tryz.func43, Tryz.ntmps43
  go_wp2
  go_loopw [2, 3, 9] (fun s2 s3 i wr => ∃ k : Nat, k ≤ l.length ∧ i = .int .i64 k ∧ s2 = .int .i64 (oldN (l.take k)) ∧ s3 = .int .i64 (newN (l.take k)) ∧ Chg Never w wr) (fun _ _ i _ => l.length - (intOf i).toNat)
  case atStart => exact ⟨0, Nat.zero_le _, rfl, rfl, rfl, (Chg.refl _ _).alloc _⟩
  case round =>
    obtain ⟨k, hk, rfl, rfl, rfl, hc⟩ := hrel
    by_cases hlt : k < l.length
    · obtain ⟨x, hx⟩ : ∃ x, l[k]? = some x := ⟨l[k], by simp [hlt]⟩
      obtain ⟨b, off, rfl, _, _, c0, c1, s0, s1, hxs⟩ := elems_mark h3 hx
      have c0 := hc.cellNever c0
      have c1 := hc.cellNever c1
      have HO := Lib.hid (oldN_take hx)
      have HN := Lib.hid (newN_take hx)
      have l1 : oldN (l.take k) ≤ k := Nat.le_trans (oldN_le _) (List.length_take_le _ _)
      have l2 : newN (l.take k) ≤ k := Nat.le_trans (newN_le _) (List.length_take_le _ _)
      clear hx h3 hm
      obtain ⟨sg, tx⟩ := x
      simp only at c0 c1 s0 s1 hxs
      by_cases h43 : sg = 43
      · subst h43
        go_wp2
        go_roundw
        case rel => exact ⟨k + 1, by omega, by go_num, by rw [HO.out]; rfl, by rw [HN.out]; go_num, hc.alloc _⟩
        case measure => simp [intOf] <;> omega
      · have t1 : (sg != 43) = true := by simp [h43]
        by_cases h45 : sg = 45
        · subst h45
          go_wp2
          go_roundw
          case rel => exact ⟨k + 1, by omega, by go_num, by rw [HO.out]; go_num, by rw [HN.out]; rfl, hc.alloc _⟩
          case measure => simp [intOf] <;> omega
        · have t2 : (sg != 45) = true := by simp [h45]
          have H43 := Lib.hid h43
          have H45 := Lib.hid h45
          clear h43 h45
          go_wp2
          go_roundw
          case rel => exact ⟨k + 1, by omega, by go_num, by rw [HO.out, if_neg H43.out]; go_num, by rw [HN.out, if_neg H45.out]; go_num, hc.alloc _⟩
          case measure => simp [intOf] <;> omega
    · go_wp2
      go_ret2
      exact ⟨by rw [List.take_of_length_le (by omega)]; rfl, hc⟩

theorem hasChange_take {l : List Mark} {k : Nat} {x : Mark} (hx : l[k]? = some x) (h : hasChange (l.take k) = false) : hasChange (l.take (k + 1)) = (!(x.sign == 32)) := by
  rw [List.take_add_one, hx]
  unfold hasChange at *
  rw [List.any_append, h]
  by_cases h1 : x.sign = 32 <;> simp [h1]
theorem hasChange_of {l : List Mark} {k : Nat} (h : hasChange (l.take k) = true) : hasChange l = true := by
  unfold hasChange at *
  rw [List.any_eq_true] at *
  obtain ⟨x, hx, hp⟩ := h
  exact ⟨x, List.mem_of_mem_take hx, hp⟩

def IdxPost (l : List Mark) (w : World) (e : Ending) (w' : World) : Prop := ∃ n : Int, e = .returned (.int .i64 n) ∧ -1 ≤ n ∧ decide (0 ≤ n) = hasChange l ∧ Chg Never w w'
theorem index_changed (l : List Mark) (v : Value) (w : World) (h : Rdv w Never v l) :
    Calls Tryz.prog 82 #[v, .func (.func 61) #[] #[]] w (IdxPost l w) := by
  obtain ⟨a, cap, rfl, h1, h2, h3⟩ := rdv_slice h
  unfold maxLen at h2
  go_enter Tryz.func82, Tryz.ntmps82
  go_wp2_with fail
  go_loopw [8] (fun i wr => ∃ k : Nat, k ≤ l.length ∧ i = .int .i64 k ∧ Hid (hasChange (l.take k) = false) ∧ Chg Never w wr) (fun i _ => l.length - (intOf i).toNat)
  case atStart => exact ⟨0, Nat.zero_le _, rfl, rfl, Chg.refl _ _⟩
  case round =>
    obtain ⟨k, hk, rfl, hf, hc⟩ := hrel
    by_cases hlt : k < l.length
    · obtain ⟨x, hx⟩ : ∃ x, l[k]? = some x := ⟨l[k], by simp [hlt]⟩
      obtain ⟨b, off, rfl, _, _, c0, c1, s0, s1, hxs⟩ := elems_mark h3 hx
      have c0 := hc.cellNever c0
      have c1 := hc.cellNever c1
      have HT := Lib.hid (hasChange_take hx hf.out)
      clear hx h3 h
      obtain ⟨sg, tx⟩ := x
      simp only at c0 c1 s0 s1 hxs
      by_cases h32 : sg = 32
      · subst h32
        go_wp2_with (go_at_call 61; refine (changed_any _ _ _).mono ?_; rintro e w2 ⟨rfl, hc2⟩)
        go_roundw
        case rel => exact ⟨k + 1, by omega, by go_num, by rw [Hid, HT.out]; rfl, hc.trans hc2⟩
        case measure => simp [intOf] <;> omega
      · have t1 : (sg == 32) = false := by simp [h32]
        go_wp2_with (go_at_call 61; refine (changed_any _ _ _).mono ?_; rintro e w2 ⟨rfl, hc2⟩)
        go_ret
        have E : hasChange l = true := hasChange_of (k := k + 1) (by rw [HT.out]; simp [h32])
        exact ⟨k, rfl, by omega, by rw [E]; simp, hc.trans hc2⟩
    · go_wp2_with fail
      go_ret
      have E : hasChange l = false := by have := hf.out; rwa [List.take_of_length_le (by omega)] at this
      exact ⟨-1, rfl, by omega, by rw [E]; rfl, hc⟩

theorem contains_changed (l : List Mark) (v : Value) (w : World) (h : Rdv w Never v l) :
    Calls Tryz.prog 60 #[v, .func (.func 61) #[] #[]] w fun e w' => e = .returned (.bool (hasChange l)) ∧ Chg Never w w' := by
  go_enter Tryz.func60, Tryz.ntmps60
  go_wp2_with fail
  refine (index_changed l _ _ h).mono ?_
  rintro e w1 ⟨n, rfl, hn, hd, hc⟩
  have HD := Lib.hid hd
  clear hd
  go_wp2_with fail
  go_ret
  exact ⟨by rw [← HD.out]; rfl, hc⟩
end Go.Proofs.YtmojaahkcpgfkaaGreatDoor
namespace Go.Proofs.YtmojaahkcpgfkaaGreatDoor
open Go.RowKit

/-- a struct of three cells that has been boxed, and is still there -/
theorem box3 {w w1 : World} {x y z : Value} {t : TypeId} (hc : Chg Never (w.alloc (.cells #[x, y, z] t)) w1) :
    w1.cell? ⟨w.heap.size, 0, none⟩ = some x ∧ w1.cell? ⟨w.heap.size, 1, none⟩ = some y ∧ w1.cell? ⟨w.heap.size, 2, none⟩ = some z := by
  refine ⟨hc.cellNever ?_, hc.cellNever ?_, hc.cellNever ?_⟩ <;> (simp only [World.cell?]; rw [heap_alloc_new]; rfl)


set_option maxHeartbeats 800000 in
theorem one_script (o n : Int) (l : List Mark) (mv : Value) (fin more : Int) (w : World) (hm : Rdv w Never mv l) (_f0 : -100000 ≤ fin) (_f1 : fin ≤ 100000) (_m0 : -100000 ≤ more) (_m1 : more ≤ 100000)
    (HZ : Hid (scriptFault l ≠ 0)) :
    Calls Tryz.prog 42 #[.agg #[.int .i64 o, .int .i64 n, mv], .int .i64 fin, .int .i64 more] w fun e w' => e = .returned (errV (oneFault ⟨o, n, l⟩ fin more)) ∧ Chg Never w w' := by
  go_enter Tryz.func42, Tryz.ntmps42
  go_wp2_with fail
  refine (edit_check_any l _ _ (hm.never ((Chg.refl _ _).alloc _))).mono ?_
  rintro e w1 ⟨rfl, hc1⟩
  obtain ⟨x0, x1, x2⟩ := box3 hc1
  have hw : Chg Never w w1 := ((Chg.refl _ _).alloc _).trans hc1
  rw [errV_pos HZ.out]
  go_wp2_with fail
  go_ret
  exact ⟨by unfold oneFault; rw [if_pos HZ.out, errV_pos HZ.out]; rfl, hw⟩

set_option maxHeartbeats 800000 in
theorem one_none (o n : Int) (l : List Mark) (mv : Value) (fin more : Int) (w : World) (hm : Rdv w Never mv l) (_f0 : -100000 ≤ fin) (_f1 : fin ≤ 100000) (_m0 : -100000 ≤ more) (_m1 : more ≤ 100000)
    (HZ : Hid (scriptFault l = 0)) (HC : Hid (hasChange l = false)) :
    Calls Tryz.prog 42 #[.agg #[.int .i64 o, .int .i64 n, mv], .int .i64 fin, .int .i64 more] w fun e w' => e = .returned (errV (oneFault ⟨o, n, l⟩ fin more)) ∧ Chg Never w w' := by
  go_enter Tryz.func42, Tryz.ntmps42
  go_wp2_with fail
  refine (edit_check_any l _ _ (hm.never ((Chg.refl _ _).alloc _))).mono ?_
  rintro e w1 ⟨rfl, hc1⟩
  obtain ⟨x0, x1, x2⟩ := box3 hc1
  have hw : Chg Never w w1 := ((Chg.refl _ _).alloc _).trans hc1
  rw [HZ.out, errV_zero]
  go_wp2_with fail
  refine (contains_changed l _ _ (hm.never hw)).mono ?_
  rintro e w2 ⟨rfl, hc2⟩
  obtain ⟨x0, x1, x2⟩ := box3 (hc1.trans hc2)
  have hw := hw.trans hc2
  rw [HC.out]
  go_wp2_with fail
  go_ret
  exact ⟨by unfold oneFault; rw [if_neg (fun h => h HZ.out), if_pos HC.out]; rfl, hw⟩

set_option maxHeartbeats 800000 in
theorem one_range (o n : Int) (l : List Mark) (mv : Value) (fin more : Int) (w : World) (hm : Rdv w Never mv l) (_f0 : -100000 ≤ fin) (_f1 : fin ≤ 100000) (_m0 : -100000 ≤ more) (_m1 : more ≤ 100000)
    (HZ : Hid (scriptFault l = 0)) (HC : Hid (hasChange l = true)) (HR : Hid (o < 0 ∨ 60 < o ∨ n < 0 ∨ 60 < n ∨ 60 < o + oldN l ∨ 60 < n + newN l)) :
    Calls Tryz.prog 42 #[.agg #[.int .i64 o, .int .i64 n, mv], .int .i64 fin, .int .i64 more] w fun e w' => e = .returned (errV (oneFault ⟨o, n, l⟩ fin more)) ∧ Chg Never w w' := by
  have E : oneFault ⟨o, n, l⟩ fin more = 1 := by
    unfold oneFault; rw [if_neg (fun h => h HZ.out), if_neg (by rw [HC.out]; decide), if_pos HR.out]
  rw [E]
  have hl := scriptFault_len HZ.out
  have l1 := oldN_le l
  have l2 := newN_le l
  clear E
  by_cases a1 : o < 0
  · go_enter Tryz.func42, Tryz.ntmps42
    go_wp2_with fail
    refine (edit_check_any l _ _ (hm.never ((Chg.refl _ _).alloc _))).mono ?_
    rintro e w1 ⟨rfl, hc1⟩
    obtain ⟨x0, x1, x2⟩ := box3 hc1
    have hw : Chg Never w w1 := ((Chg.refl _ _).alloc _).trans hc1
    rw [HZ.out, errV_zero]
    go_wp2_with fail
    refine (contains_changed l _ _ (hm.never hw)).mono ?_
    rintro e w2 ⟨rfl, hc2⟩
    obtain ⟨x0, x1, x2⟩ := box3 (hc1.trans hc2)
    have hw := hw.trans hc2
    rw [HC.out]
    go_wp2_with fail
    refine (size_any ⟨o, n, l⟩ mv _ (hm.never hw)).mono ?_
    rintro e w3 ⟨rfl, hc3⟩
    obtain ⟨x0, x1, x2⟩ := box3 ((hc1.trans hc2).trans hc3)
    have hw := hw.trans hc3
    clear hc1 hc2 hc3
    go_wp2_with fail
    go_ret
    exact ⟨rfl, hw⟩
  · by_cases a2 : 60 < o
    · go_enter Tryz.func42, Tryz.ntmps42
      go_wp2_with fail
      refine (edit_check_any l _ _ (hm.never ((Chg.refl _ _).alloc _))).mono ?_
      rintro e w1 ⟨rfl, hc1⟩
      obtain ⟨x0, x1, x2⟩ := box3 hc1
      have hw : Chg Never w w1 := ((Chg.refl _ _).alloc _).trans hc1
      rw [HZ.out, errV_zero]
      go_wp2_with fail
      refine (contains_changed l _ _ (hm.never hw)).mono ?_
      rintro e w2 ⟨rfl, hc2⟩
      obtain ⟨x0, x1, x2⟩ := box3 (hc1.trans hc2)
      have hw := hw.trans hc2
      rw [HC.out]
      go_wp2_with fail
      refine (size_any ⟨o, n, l⟩ mv _ (hm.never hw)).mono ?_
      rintro e w3 ⟨rfl, hc3⟩
      obtain ⟨x0, x1, x2⟩ := box3 ((hc1.trans hc2).trans hc3)
      have hw := hw.trans hc3
      clear hc1 hc2 hc3
      go_wp2_with fail
      go_ret
      exact ⟨rfl, hw⟩
    · by_cases a3 : n < 0
      · go_enter Tryz.func42, Tryz.ntmps42
        go_wp2_with fail
        refine (edit_check_any l _ _ (hm.never ((Chg.refl _ _).alloc _))).mono ?_
        rintro e w1 ⟨rfl, hc1⟩
        obtain ⟨x0, x1, x2⟩ := box3 hc1
        have hw : Chg Never w w1 := ((Chg.refl _ _).alloc _).trans hc1
        rw [HZ.out, errV_zero]
        go_wp2_with fail
        refine (contains_changed l _ _ (hm.never hw)).mono ?_
        rintro e w2 ⟨rfl, hc2⟩
        obtain ⟨x0, x1, x2⟩ := box3 (hc1.trans hc2)
        have hw := hw.trans hc2
        rw [HC.out]
        go_wp2_with fail
        refine (size_any ⟨o, n, l⟩ mv _ (hm.never hw)).mono ?_
        rintro e w3 ⟨rfl, hc3⟩
        obtain ⟨x0, x1, x2⟩ := box3 ((hc1.trans hc2).trans hc3)
        have hw := hw.trans hc3
        clear hc1 hc2 hc3
        go_wp2_with fail
        go_ret
        exact ⟨rfl, hw⟩
      · by_cases a4 : 60 < n
        · go_enter Tryz.func42, Tryz.ntmps42
          go_wp2_with fail
          refine (edit_check_any l _ _ (hm.never ((Chg.refl _ _).alloc _))).mono ?_
          rintro e w1 ⟨rfl, hc1⟩
          obtain ⟨x0, x1, x2⟩ := box3 hc1
          have hw : Chg Never w w1 := ((Chg.refl _ _).alloc _).trans hc1
          rw [HZ.out, errV_zero]
          go_wp2_with fail
          refine (contains_changed l _ _ (hm.never hw)).mono ?_
          rintro e w2 ⟨rfl, hc2⟩
          obtain ⟨x0, x1, x2⟩ := box3 (hc1.trans hc2)
          have hw := hw.trans hc2
          rw [HC.out]
          go_wp2_with fail
          refine (size_any ⟨o, n, l⟩ mv _ (hm.never hw)).mono ?_
          rintro e w3 ⟨rfl, hc3⟩
          obtain ⟨x0, x1, x2⟩ := box3 ((hc1.trans hc2).trans hc3)
          have hw := hw.trans hc3
          clear hc1 hc2 hc3
          go_wp2_with fail
          go_ret
          exact ⟨rfl, hw⟩
        · by_cases a5 : 60 < o + oldN l
          · go_enter Tryz.func42, Tryz.ntmps42
            go_wp2_with fail
            refine (edit_check_any l _ _ (hm.never ((Chg.refl _ _).alloc _))).mono ?_
            rintro e w1 ⟨rfl, hc1⟩
            obtain ⟨x0, x1, x2⟩ := box3 hc1
            have hw : Chg Never w w1 := ((Chg.refl _ _).alloc _).trans hc1
            rw [HZ.out, errV_zero]
            go_wp2_with fail
            refine (contains_changed l _ _ (hm.never hw)).mono ?_
            rintro e w2 ⟨rfl, hc2⟩
            obtain ⟨x0, x1, x2⟩ := box3 (hc1.trans hc2)
            have hw := hw.trans hc2
            rw [HC.out]
            go_wp2_with fail
            refine (size_any ⟨o, n, l⟩ mv _ (hm.never hw)).mono ?_
            rintro e w3 ⟨rfl, hc3⟩
            obtain ⟨x0, x1, x2⟩ := box3 ((hc1.trans hc2).trans hc3)
            have hw := hw.trans hc3
            clear hc1 hc2 hc3
            go_wp2_with fail
            go_ret
            exact ⟨rfl, hw⟩
          · have a6 : 60 < n + newN l := by have := HR.out; omega
            go_enter Tryz.func42, Tryz.ntmps42
            go_wp2_with fail
            refine (edit_check_any l _ _ (hm.never ((Chg.refl _ _).alloc _))).mono ?_
            rintro e w1 ⟨rfl, hc1⟩
            obtain ⟨x0, x1, x2⟩ := box3 hc1
            have hw : Chg Never w w1 := ((Chg.refl _ _).alloc _).trans hc1
            rw [HZ.out, errV_zero]
            go_wp2_with fail
            refine (contains_changed l _ _ (hm.never hw)).mono ?_
            rintro e w2 ⟨rfl, hc2⟩
            obtain ⟨x0, x1, x2⟩ := box3 (hc1.trans hc2)
            have hw := hw.trans hc2
            rw [HC.out]
            go_wp2_with fail
            refine (size_any ⟨o, n, l⟩ mv _ (hm.never hw)).mono ?_
            rintro e w3 ⟨rfl, hc3⟩
            obtain ⟨x0, x1, x2⟩ := box3 ((hc1.trans hc2).trans hc3)
            have hw := hw.trans hc3
            clear hc1 hc2 hc3
            go_wp2_with fail
            go_ret
            exact ⟨rfl, hw⟩

set_option maxHeartbeats 800000 in
theorem one_rest (o n : Int) (l : List Mark) (mv : Value) (fin more : Int) (w : World) (hm : Rdv w Never mv l) (_f0 : -100000 ≤ fin) (_f1 : fin ≤ 100000) (m0 : -100000 ≤ more) (m1 : more ≤ 100000)
    (HZ : Hid (scriptFault l = 0)) (HC : Hid (hasChange l = true)) (HR : ¬ (o < 0 ∨ 60 < o ∨ n < 0 ∨ 60 < n ∨ 60 < o + oldN l ∨ 60 < n + newN l)) :
    Calls Tryz.prog 42 #[.agg #[.int .i64 o, .int .i64 n, mv], .int .i64 fin, .int .i64 more] w fun e w' => e = .returned (errV (oneFault ⟨o, n, l⟩ fin more)) ∧ Chg Never w w' := by
  have E : oneFault ⟨o, n, l⟩ fin more = if o < fin ∨ n ≠ o + more then 2 else 0 := by
    unfold oneFault; rw [if_neg (fun h => h HZ.out), if_neg (by rw [HC.out]; decide), if_neg HR]
  rw [E]
  have hl := scriptFault_len HZ.out
  have l1 := oldN_le l
  have l2 := newN_le l
  clear E
  have a1 : 0 ≤ o := by omega
  have a2 : o ≤ 60 := by omega
  have a3 : 0 ≤ n := by omega
  have a4 : n ≤ 60 := by omega
  have a5 : o + oldN l ≤ 60 := by omega
  have a6 : n + newN l ≤ 60 := by omega
  clear HR
  by_cases b1 : o < fin
  · rw [if_pos (.inl b1)]
    go_enter Tryz.func42, Tryz.ntmps42
    go_wp2_with fail
    refine (edit_check_any l _ _ (hm.never ((Chg.refl _ _).alloc _))).mono ?_
    rintro e w1 ⟨rfl, hc1⟩
    obtain ⟨x0, x1, x2⟩ := box3 hc1
    have hw : Chg Never w w1 := ((Chg.refl _ _).alloc _).trans hc1
    rw [HZ.out, errV_zero]
    go_wp2_with fail
    refine (contains_changed l _ _ (hm.never hw)).mono ?_
    rintro e w2 ⟨rfl, hc2⟩
    obtain ⟨x0, x1, x2⟩ := box3 (hc1.trans hc2)
    have hw := hw.trans hc2
    rw [HC.out]
    go_wp2_with fail
    refine (size_any ⟨o, n, l⟩ mv _ (hm.never hw)).mono ?_
    rintro e w3 ⟨rfl, hc3⟩
    obtain ⟨x0, x1, x2⟩ := box3 ((hc1.trans hc2).trans hc3)
    have hw := hw.trans hc3
    clear hc1 hc2 hc3
    go_wp2_with fail
    go_ret
    exact ⟨rfl, hw⟩
  · by_cases b2 : n = o + more
    · rw [if_neg (by omega)]
      have t1 : (n != o + more) = false := by simp [b2]
      clear b2
      go_enter Tryz.func42, Tryz.ntmps42
      go_wp2_with fail
      refine (edit_check_any l _ _ (hm.never ((Chg.refl _ _).alloc _))).mono ?_
      rintro e w1 ⟨rfl, hc1⟩
      obtain ⟨x0, x1, x2⟩ := box3 hc1
      have hw : Chg Never w w1 := ((Chg.refl _ _).alloc _).trans hc1
      rw [HZ.out, errV_zero]
      go_wp2_with fail
      refine (contains_changed l _ _ (hm.never hw)).mono ?_
      rintro e w2 ⟨rfl, hc2⟩
      obtain ⟨x0, x1, x2⟩ := box3 (hc1.trans hc2)
      have hw := hw.trans hc2
      rw [HC.out]
      go_wp2_with fail
      refine (size_any ⟨o, n, l⟩ mv _ (hm.never hw)).mono ?_
      rintro e w3 ⟨rfl, hc3⟩
      obtain ⟨x0, x1, x2⟩ := box3 ((hc1.trans hc2).trans hc3)
      have hw := hw.trans hc3
      clear hc1 hc2 hc3
      go_wp2_with fail
      go_ret
      exact ⟨rfl, hw⟩
    · rw [if_pos (.inr b2)]
      have t1 : (n != o + more) = true := by simp [b2]
      clear b2
      go_enter Tryz.func42, Tryz.ntmps42
      go_wp2_with fail
      refine (edit_check_any l _ _ (hm.never ((Chg.refl _ _).alloc _))).mono ?_
      rintro e w1 ⟨rfl, hc1⟩
      obtain ⟨x0, x1, x2⟩ := box3 hc1
      have hw : Chg Never w w1 := ((Chg.refl _ _).alloc _).trans hc1
      rw [HZ.out, errV_zero]
      go_wp2_with fail
      refine (contains_changed l _ _ (hm.never hw)).mono ?_
      rintro e w2 ⟨rfl, hc2⟩
      obtain ⟨x0, x1, x2⟩ := box3 (hc1.trans hc2)
      have hw := hw.trans hc2
      rw [HC.out]
      go_wp2_with fail
      refine (size_any ⟨o, n, l⟩ mv _ (hm.never hw)).mono ?_
      rintro e w3 ⟨rfl, hc3⟩
      obtain ⟨x0, x1, x2⟩ := box3 ((hc1.trans hc2).trans hc3)
      have hw := hw.trans hc3
      clear hc1 hc2 hc3
      go_wp2_with fail
      go_ret
      exact ⟨rfl, hw⟩

theorem one_hunk (h : Hunk) (mv : Value) (fin more : Int) (w : World) (hm : Rdv w Never mv h.marks) (f0 : -100000 ≤ fin) (f1 : fin ≤ 100000) (m0 : -100000 ≤ more) (m1 : more ≤ 100000) :
    Calls Tryz.prog 42 #[.agg #[.int .i64 h.old, .int .i64 h.new, mv], .int .i64 fin, .int .i64 more] w fun e w' => e = .returned (errV (oneFault h fin more)) ∧ Chg Never w w' := by
  obtain ⟨o, n, l⟩ := h
  by_cases hz : scriptFault l = 0
  · by_cases hc : hasChange l = true
    · by_cases hr : o < 0 ∨ 60 < o ∨ n < 0 ∨ 60 < n ∨ 60 < o + oldN l ∨ 60 < n + newN l
      · exact one_range o n l mv fin more w hm f0 f1 m0 m1 hz hc hr
      · exact one_rest o n l mv fin more w hm f0 f1 m0 m1 hz hc hr
    · exact one_none o n l mv fin more w hm f0 f1 m0 m1 hz (by simpa [Hid] using hc)
  · exact one_script o n l mv fin more w hm f0 f1 m0 m1 hz
end Go.Proofs.YtmojaahkcpgfkaaGreatDoor
namespace Go.Proofs.YtmojaahkcpgfkaaGreatDoor
open Go.RowKit

theorem elems_hunk {w : World} {O : Nat → Prop} {a : Option Addr} {l : List Hunk} (h : Elems w O a l) {i : Nat} {x : Hunk} (hx : l[i]? = some x) :
    ∃ b off mv, a = some ⟨b, off, none⟩ ∧ ¬ O b ∧ b < w.heap.size ∧ w.cell? ⟨b, off + i * 3, none⟩ = some (.int .i64 x.old) ∧ w.cell? ⟨b, off + i * 3 + 1, none⟩ = some (.int .i64 x.new) ∧ w.cell? ⟨b, off + i * 3 + 2, none⟩ = some mv ∧ Rdv w O mv x.marks := by
  obtain ⟨b, off, es, ha, hb, hcs, mv, rfl, hs⟩ := h i x hx
  refine ⟨b, off, mv, ha, hb, hcs.lt (by simp), ?_, ?_, ?_, hs⟩
  · simpa [Dat.n] using hcs 0 _ rfl
  · simpa [Dat.n] using hcs 1 _ rfl
  · simpa [Dat.n] using hcs 2 _ rfl

theorem hunksGo_drop {l : List Hunk} {k : Nat} {x : Hunk} {i : Nat} {fin more : Int} (hx : l[k]? = some x) :
    hunksGo i fin more (l.drop k) = if oneFault x fin more = 0 then hunksGo (i + 1) (x.old + oldN x.marks) (more + newN x.marks - oldN x.marks) (l.drop (k + 1)) else (i, oneFault x fin more) := by
  rw [drop_eq hx, hunksGo]
theorem oneFault_zero {h : Hunk} {fin more : Int} (e : oneFault h fin more = 0) : scriptFault h.marks = 0 ∧ hasChange h.marks = true ∧ 0 ≤ h.old ∧ 0 ≤ h.new ∧ h.old + oldN h.marks ≤ 60 ∧ h.new + newN h.marks ≤ 60 ∧ fin ≤ h.old ∧ h.new = h.old + more := by
  unfold oneFault at e
  by_cases h1 : scriptFault h.marks ≠ 0
  · rw [if_pos h1] at e; exact absurd e h1
  · rw [if_neg h1] at e
    by_cases h2 : hasChange h.marks = false
    · rw [if_pos h2] at e; simp at e
    · rw [if_neg h2] at e
      by_cases h3 : h.old < 0 ∨ 60 < h.old ∨ h.new < 0 ∨ 60 < h.new ∨ 60 < h.old + oldN h.marks ∨ 60 < h.new + newN h.marks
      · rw [if_pos h3] at e; simp at e
      · rw [if_neg h3] at e
        by_cases h4 : h.old < fin ∨ h.new ≠ h.old + more
        · rw [if_pos h4] at e; simp at e
        · refine ⟨by simpa using h1, by simpa using h2, ?_⟩
          omega

set_option maxHeartbeats 800000 in
theorem hunk_check_any (l : List Hunk) (v : Value) (w : World) (h : Rdv w Never v l) :
    Calls Tryz.prog 25 #[v] w fun e w' => e = .returned (.tuple #[.int .i64 (hunksFault l).1, errV (hunksFault l).2]) ∧ Chg Never w w' := by
  obtain ⟨a, cap, rfl, h1, h2, h3⟩ := rdv_slice h
  unfold maxLen at h2
  by_cases h4 : 60 < l.length
  · have E : hunksFault l = (0, 3) := if_pos h4
    rw [E]
    clear E
    go_enter Tryz.func25, Tryz.ntmps25
    go_wp2_with fail
    go_ret2
    exact ⟨rfl, Chg.refl _ _⟩
  · have HE : Hid (hunksFault l = hunksGo 0 0 0 l) := if_neg h4
    go_enter Tryz.func25, Tryz.ntmps25
    go_wp2_with fail
    go_loopw [4, 5, 17] (fun s4 s5 i wr => ∃ (k : Nat) (fin more : Int), k ≤ l.length ∧ i = .int .i64 k ∧ s4 = .int .i64 fin ∧ s5 = .int .i64 more ∧ 0 ≤ fin ∧ fin ≤ 60 ∧ -60 ≤ more ∧ more ≤ 60 ∧ Hid (hunksGo k fin more (l.drop k) = hunksFault l) ∧ Chg Never w wr) (fun _ _ i _ => l.length - (intOf i).toNat)
    case atStart => exact ⟨0, 0, 0, Nat.zero_le _, rfl, rfl, rfl, by omega, by omega, by omega, by omega, HE.out.symm, Chg.refl _ _⟩
    case round =>
      obtain ⟨k, fin, more, hk, rfl, rfl, rfl, f0, f1, m0, m1, hf, hc⟩ := hrel
      by_cases hlt : k < l.length
      · obtain ⟨x, hx⟩ : ∃ x, l[k]? = some x := ⟨l[k], by simp [hlt]⟩
        obtain ⟨b, off, mv, rfl, _, _, c0, c1, c2, hmv⟩ := elems_hunk h3 hx
        have c0 := hc.cellNever c0
        have c1 := hc.cellNever c1
        have c2 := hc.cellNever c2
        have hmv := hmv.never hc
        obtain ⟨ma, mcap, rfl, _, _, _⟩ := rdv_slice hmv
        have HG := Lib.hid (hunksGo_drop (i := k) (fin := fin) (more := more) hx)
        clear hx h3 h
        by_cases hz : oneFault x fin more = 0
        · have hzz := oneFault_zero hz
          have HZ := Lib.hid hz
          obtain ⟨z1, z2, z3, z4, z5, z6, z7, z8⟩ := hzz
          have Z8 := Lib.hid z8
          have l1 := oldN_le x.marks
          have l2 := newN_le x.marks
          clear hz z1 z2 z8
          go_wp2_with fail
          refine (one_hunk x _ fin more _ (hmv.never ((Chg.refl _ _).alloc _)) (by omega) (by omega) (by omega) (by omega)).mono ?_
          rintro e w1 ⟨rfl, hc1⟩
          obtain ⟨x0, x1, x2⟩ := box3 hc1
          have hmv1 := (hmv.never ((Chg.refl _ _).alloc _)).never hc1
          rw [HZ.out, errV_zero]
          go_wp2_with fail
          refine (size_any x _ _ hmv1).mono ?_
          rintro e w2 ⟨rfl, hc2⟩
          obtain ⟨x0, x1, x2⟩ := box3 (hc1.trans hc2)
          have hw := (hc.alloc _).trans (hc1.trans hc2)
          clear hc1 hc2
          go_wp2_with fail
          go_roundw
          case rel => exact ⟨k + 1, x.old + oldN x.marks, more + newN x.marks - oldN x.marks, by omega, by go_num, rfl, rfl, by omega, by omega, by have := Z8.out; omega, by have := Z8.out; omega, by have := hf.out; rw [HG.out, if_pos HZ.out] at this; exact this, hw⟩
          case measure => simp [intOf] <;> omega
        · have HZ := Lib.hid hz
          clear hz
          go_wp2_with fail
          refine (one_hunk x _ fin more _ (hmv.never ((Chg.refl _ _).alloc _)) (by omega) (by omega) (by omega) (by omega)).mono ?_
          rintro e w1 ⟨rfl, hc1⟩
          have hw := (hc.alloc _).trans hc1
          clear hc1
          rw [errV_pos HZ.out]
          go_wp2_with fail
          go_ret2
          have E : hunksFault l = (k, oneFault x fin more) := by have := hf.out; rw [HG.out, if_neg HZ.out] at this; exact this.symm
          exact ⟨by rw [E]; show _ = Ending.returned (.tuple #[.int .i64 (k : Int), errV (oneFault x fin more)]); rw [errV_pos HZ.out]; rfl, hw⟩
      · go_wp2_with fail
        go_ret2
        have E : hunksFault l = (0, 0) := by have := hf.out; rw [List.drop_of_length_le (by omega), hunksGo] at this; exact this.symm
        exact ⟨by rw [E]; rfl, hc⟩
end Go.Proofs.YtmojaahkcpgfkaaGreatDoor
namespace Go.Proofs.YtmojaahkcpgfkaaGreatDoor
open Go.RowKit

abbrev IsB : Nat → Nat → List Value → World → Prop := Lib.IsBuilderF 65 5
abbrev BAt (B b : Nat) (bs : List Value) (w : World) : Prop := Lib.BuilderAtF 65 5 B b (.pointer (some ⟨b, 0, none⟩)) bs w
theorem bld_info : (Tryz.prog.info? 65).map (·.size) = some 2 := by kernel_rfl
theorem bld_lies : liesAt Tryz.prog Tryz.prog.depth 65 (2 / Tryz.prog.cellsOf 65) 0 65 1 = true := by kernel_rfl
theorem bld_byte : (Tryz.prog.info? 5).map (fun i => (i.zero, i.size, i.bytes)) = some (some (.int .u8 0), 1, 1) := by kernel_rfl

set_option maxHeartbeats 1000000 in
set_option maxRecDepth 100000 in
theorem bld_check (B b : Nat) (bs : List Value) (w : World) (h : IsB B b bs w) :
    Calls Tryz.prog 56 #[.pointer (some ⟨b, 0, none⟩)] w fun e w' => e = .returned (.tuple #[]) ∧ BAt B b bs w' ∧ Below B w w' := by
  obtain ⟨j, hj, hjs⟩ := Option.map_eq_some_iff.1 bld_info
  rcases h with h | h
  · have c0 := h.cell0
    have hsh := h.shape
    have hfz := h.frozen0
    have hfin : BAt B b bs (w.setCell ⟨b, 0, none⟩ (.pointer (some ⟨b, 0, none⟩))) ∧ Below B w (w.setCell ⟨b, 0, none⟩ (.pointer (some ⟨b, 0, none⟩))) := ⟨h.used _, (Below.refl B w).setCell (p := ⟨b, 0, none⟩) h.1 _⟩
    clear h
    go_enter Tryz.func56, Tryz.ntmps56
    go_wp2_with fail
    rw [Lib.run_to_unsafe w ⟨b, 0, none⟩ Tryz.underlying63 Tryz.underlying111 hj (by rw [hjs]; decide) hsh (Nat.zero_lt_succ 1)]
    simp only [Result.andThen]
    rw [Oper.upon_value]
    go_wp2_with fail
    rw [run_callFunc_extern Tryz.func79 (by kernel_rfl) (by kernel_rfl) (by kernel_rfl) (e := Extern.AbiNoEscape.same) (by kernel_rfl)]
    rw [Lib.run_noEscape]
    simp only [Result.andThen]
    rw [Oper.upon_value]
    go_wp2_with fail
    rw [Lib.run_from_unsafe w ⟨b, 0, none⟩ Tryz.underlying111 Tryz.underlying63 hj hsh bld_lies]
    simp only [Result.andThen]
    rw [Oper.upon_value]
    go_wp2_with fail
    go_end0
    exact ⟨rfl, hfin.1, hfin.2⟩
  · have c0 := h.cell0
    go_enter Tryz.func56, Tryz.ntmps56
    go_wp2_with fail
    rw [Lib.run_neq_ptr_same w _ Tryz.underlying63 hj]
    go_wp2_with fail
    go_end0
    exact ⟨rfl, h, Below.refl B _⟩
set_option maxHeartbeats 1000000 in
set_option maxRecDepth 100000 in
theorem bld_string (B b : Nat) (bs : List Value) (s : ByteArray) (w : World) (h : IsB B b bs w) (hlen : bs.length + s.size ≤ 140737488355328) (hBw : B ≤ w.heap.size) :
    Calls Tryz.prog 37 #[.pointer (some ⟨b, 0, none⟩), .string s] w fun e w' => e = .returned (.tuple #[.int .i64 s.size, .nilIface]) ∧ BAt B b (bs ++ Lib.strCells s) w' ∧ Below B w w' := by
  obtain ⟨i0, hi, hz0, hz1, hz2⟩ := info_parts bld_byte
  go_enter Tryz.func37, Tryz.ntmps37
  go_wp2_with fail
  refine (bld_check B b bs _ h).mono ?_
  rintro e w1 ⟨rfl, h1, hb1⟩
  obtain ⟨hB, v, hbk, hown, hne⟩ := h1
  have c0 : w1.cell? ⟨b, 0, none⟩ = some (.pointer (some ⟨b, 0, none⟩)) := by rw [Lib.cell_of_heap hbk]; rfl
  have c1 : w1.cell? ⟨b, 1, none⟩ = some v := by rw [Lib.cell_of_heap hbk]; rfl
  have hlt : b < w1.heap.size := (Array.getElem?_eq_some_iff.1 hbk).1
  have hs1 := hb1.size
  go_wp2_with (at_builtin; refine Lib.wpList_append_own_stringF _ rfl _ _ 60 9 rfl B 5 i0 Tryz.underlying60 Tryz.underlying9 hi hz0 hz1 hz2 _ _ _ rfl hown s rfl (by unfold maxLen; omega) (by omega) (by omega) ?_)
  intro v' w2 hown' hgrow _
  have hb2 : w2.heap[b]? = some (.cells #[.pointer (some ⟨b, 0, none⟩), v] 65 (0, 0)) := (hgrow.block b hlt (fun e => hne e.symm)).trans hbk
  have d0 : w2.cell? ⟨b, 0, none⟩ = some (.pointer (some ⟨b, 0, none⟩)) := by rw [Lib.cell_of_heap hb2]; rfl
  have d1 : w2.cell? ⟨b, 1, none⟩ = some v := by rw [Lib.cell_of_heap hb2]; rfl
  have f1 : w2.frozen? ⟨b, 1, none⟩ = false := Lib.frozen_of_heap hb2 1
  have hfin := Lib.BuilderAtF.put (T := 65) (e := 5) (v' := v') hB hb2 (bs' := bs ++ Lib.strCells s) (by simpa [Lib.strCells_length] using hown') (by decide)
  have hfin2 := (hb1.grown hgrow (by omega) (fun k hk => (hown.lt k hk).1)).setCell (p := ⟨b, 1, none⟩) hB v'
  obtain ⟨ao, n', cap, rfl⟩ : ∃ ao n' cap, v' = .slice ao n' cap := by
    rcases hown'.2 with ⟨hv, _⟩ | ⟨g, cap, cur, fz, hv, _⟩
    · exact ⟨_, _, _, hv⟩
    · exact ⟨_, _, _, hv⟩
  clear hgrow hown hown' hbk hb2 c0 c1
  go_wp2_with fail
  go_ret2
  exact ⟨rfl, hfin, hfin2⟩
set_option maxHeartbeats 1000000 in
set_option maxRecDepth 100000 in
theorem bld_byte1 (B b : Nat) (bs : List Value) (c : Int) (w : World) (h : IsB B b bs w) (hlen : bs.length + 1 ≤ 140737488355328) (hBw : B ≤ w.heap.size) :
    Calls Tryz.prog 45 #[.pointer (some ⟨b, 0, none⟩), .int .u8 c] w fun e w' => e = .returned .nilIface ∧ BAt B b (bs ++ [.int .u8 c]) w' ∧ Below B w w' := by
  obtain ⟨i0, hi, hz0, hz1, hz2⟩ := info_parts bld_byte
  go_enter Tryz.func45, Tryz.ntmps45
  go_wp2_with fail
  refine (bld_check B b bs _ h).mono ?_
  rintro e w1 ⟨rfl, h1, hb1⟩
  obtain ⟨hB, v, hbk, hown, hne⟩ := h1
  have c0 : w1.cell? ⟨b, 0, none⟩ = some (.pointer (some ⟨b, 0, none⟩)) := by rw [Lib.cell_of_heap hbk]; rfl
  have c1 : w1.cell? ⟨b, 1, none⟩ = some v := by rw [Lib.cell_of_heap hbk]; rfl
  have hlt : b < w1.heap.size := (Array.getElem?_eq_some_iff.1 hbk).1
  have hs1 := hb1.size
  go_wp2_with (at_builtin; refine wpList_append_ownF _ rfl _ _ 60 rfl B 5 i0 (.int .u8 0) 1 1 Tryz.underlying60 hi hz0 hz1 hz2 rfl (by decide) _ _ _ rfl (hown.alloc _) ⟨w1.heap.size, 0, none⟩ 1 1 [.int .u8 c] rfl rfl ?c1 ?c2 (by unfold maxLen; omega) (by omega) (by simp; omega) ?_)
  case c1 =>
    intro j u hj
    match j, hj with
    | 0, hj => simp at hj; subst hj; simp [Addr.add]
  case c2 => intro u hu; simp at hu; subst hu; rfl
  intro v' w2 hown' hgrow _
  have hb2 : w2.heap[b]? = some (.cells #[.pointer (some ⟨b, 0, none⟩), v] 65 (0, 0)) := ((hgrow.block b (by simp; omega) (fun e => hne e.symm)).trans (Lib.alloc_old w1 _ b hlt)).trans hbk
  have d0 : w2.cell? ⟨b, 0, none⟩ = some (.pointer (some ⟨b, 0, none⟩)) := by rw [Lib.cell_of_heap hb2]; rfl
  have d1 : w2.cell? ⟨b, 1, none⟩ = some v := by rw [Lib.cell_of_heap hb2]; rfl
  have f1 : w2.frozen? ⟨b, 1, none⟩ = false := Lib.frozen_of_heap hb2 1
  have hfin := Lib.BuilderAtF.put (T := 65) (e := 5) (v' := v') hB hb2 (bs' := bs ++ [.int .u8 c]) (by simpa using hown') (by decide)
  have hfin2 := ((hb1.alloc (by omega) _).grown hgrow (by simp; omega) (fun k hk => (hown.lt k hk).1)).setCell (p := ⟨b, 1, none⟩) hB v'
  obtain ⟨ao, n', cap, rfl⟩ : ∃ ao n' cap, v' = .slice ao n' cap := by
    rcases hown'.2 with ⟨hv, _⟩ | ⟨g, cap, cur, fz, hv, _⟩
    · exact ⟨_, _, _, hv⟩
    · exact ⟨_, _, _, hv⟩
  clear hgrow hown hown' hbk hb2 c0 c1
  go_wp2_with fail
  go_ret
  exact ⟨rfl, hfin, hfin2⟩
end Go.Proofs.YtmojaahkcpgfkaaGreatDoor
namespace Go.Proofs.YtmojaahkcpgfkaaGreatDoor
open Go.RowKit

theorem bat_keep {B b : Nat} {bs : List Value} {w w' : World} {p : Value} (h : Lib.BuilderAtF 65 5 B b p bs w) (hc : Chg Never w w') : Lib.BuilderAtF 65 5 B b p bs w' := by
  have hlt := h.lt
  obtain ⟨hB, v, hv, hown, hne⟩ := h
  refine ⟨hB, v, (hc.block b hlt (fun x => x)).trans hv, hown.kept (row := none) ⟨hc.os, hc.tape, hc.output, hc.size, fun k hk _ => hc.block k hk (fun x => x)⟩ (Classical.em _), hne⟩
theorem bld_keep {B b : Nat} {bs : List Value} {w w' : World} (h : IsB B b bs w) (hc : Chg Never w w') : IsB B b bs w' :=
  h.elim (fun x => .inl (bat_keep x hc)) (fun x => .inr (bat_keep x hc))
end Go.Proofs.YtmojaahkcpgfkaaGreatDoor
namespace Go.Proofs.YtmojaahkcpgfkaaGreatDoor
open Go.RowKit

/-- block B holds two cells of its own -/
def Blk2 (w : World) (B : Nat) (t : TypeId) (x y : Value) : Prop := w.heap[B]? = some (.cells #[x, y] t (0, 0))
theorem Blk2.cell {w : World} {B : Nat} {t : TypeId} {x y : Value} (h : Blk2 w B t x y) : w.cell? ⟨B, 0, none⟩ = some x ∧ w.cell? ⟨B, 1, none⟩ = some y := by
  unfold Blk2 at h
  refine ⟨?_, ?_⟩ <;> (unfold World.cell?; rw [h]; rfl)
theorem Blk2.free {w : World} {B : Nat} {t : TypeId} {x y : Value} (h : Blk2 w B t x y) (j : Nat) : w.frozen? ⟨B, j, none⟩ = false := by
  unfold Blk2 at h
  unfold World.frozen?; rw [h]; simp
theorem Blk2.lt {w : World} {B : Nat} {t : TypeId} {x y : Value} (h : Blk2 w B t x y) : B < w.heap.size := (Array.getElem?_eq_some_iff.1 h).1
theorem Blk2.keep {w w' : World} {B : Nat} {t : TypeId} {x y : Value} {O : Nat → Prop} (h : Blk2 w B t x y) (hc : Chg O w w') (hB : ¬ O B) : Blk2 w' B t x y := by
  unfold Blk2 at *
  rw [hc.block B (Array.getElem?_eq_some_iff.1 h).1 hB]
  exact h
theorem Blk2.set1 {w : World} {B : Nat} {t : TypeId} {x y : Value} (h : Blk2 w B t x y) (u : Value) : Blk2 (w.setCell ⟨B, 1, none⟩ u) B t x u := by
  unfold Blk2 at *
  simp [World.setCell, Array.getElem?_modify, h]
theorem Blk2.new (w : World) (t : TypeId) (x y : Value) : Blk2 (w.alloc (.cells #[x, y] t)) w.heap.size t x y := heap_alloc_new _ _
/-- a block of three cells, as it is -/
def Blk3 (w : World) (B : Nat) (t : TypeId) (x y z : Value) : Prop := w.heap[B]? = some (.cells #[x, y, z] t (0, 0))
theorem Blk3.cell {w : World} {B : Nat} {t : TypeId} {x y z : Value} (h : Blk3 w B t x y z) : w.cell? ⟨B, 0, none⟩ = some x ∧ w.cell? ⟨B, 1, none⟩ = some y ∧ w.cell? ⟨B, 2, none⟩ = some z := by
  unfold Blk3 at h
  simp [World.cell?, h]
theorem Blk3.free {w : World} {B : Nat} {t : TypeId} {x y z : Value} (h : Blk3 w B t x y z) (j : Nat) : w.frozen? ⟨B, j, none⟩ = false := by
  unfold Blk3 at h
  simp [World.frozen?, h]
theorem Blk3.lt {w : World} {B : Nat} {t : TypeId} {x y z : Value} (h : Blk3 w B t x y z) : B < w.heap.size := (Array.getElem?_eq_some_iff.1 h).1
theorem Blk3.keep {w w' : World} {B : Nat} {t : TypeId} {x y z : Value} {O : Nat → Prop} (h : Blk3 w B t x y z) (hc : Chg O w w') (hB : ¬ O B) : Blk3 w' B t x y z := by
  have := hc.block B h.lt hB
  unfold Blk3 at *
  rw [this]
  exact h
theorem Blk3.set2 {w : World} {B : Nat} {t : TypeId} {x y z : Value} (h : Blk3 w B t x y z) (u : Value) : Blk3 (w.setCell ⟨B, 2, none⟩ u) B t x y u := by
  unfold Blk3 at *
  simp [World.setCell, Array.getElem?_modify, h]
theorem Blk3.set0 {w : World} {B : Nat} {t : TypeId} {x y z : Value} (h : Blk3 w B t x y z) (u : Value) : Blk3 (w.setCell ⟨B, 0, none⟩ u) B t u y z := by
  unfold Blk3 at *
  simp [World.setCell, Array.getElem?_modify, h]
theorem Blk3.set1 {w : World} {B : Nat} {t : TypeId} {x y z : Value} (h : Blk3 w B t x y z) (u : Value) : Blk3 (w.setCell ⟨B, 1, none⟩ u) B t x u z := by
  unfold Blk3 at *
  simp [World.setCell, Array.getElem?_modify, h]
theorem Blk3.new (w : World) (t : TypeId) (x y z : Value) : Blk3 (w.alloc (.cells #[x, y, z] t)) w.heap.size t x y z := heap_alloc_new _ _
theorem own_isSlice {α : Type} [Dat α] {e : TypeId} {w : World} {O : Nat → Prop} {v : Value} {l : List α} (h : Own e w O v l) : ∃ a n c, v = .slice a n c := by
  obtain ⟨xs, hx, _⟩ := h
  rcases hx.2 with ⟨h, _⟩ | ⟨g, cap, cur, h, _⟩
  · exact ⟨_, _, _, h⟩
  · exact ⟨_, _, _, h⟩
theorem cell_put_eq {w : World} {p : Addr} {v : Value} (h : w.cell? p = some v) : w.setCell p v = w := by
  have e : (w.setCell p v).heap = w.heap := by
    unfold World.setCell World.cell? at *
    apply Array.ext_getElem?
    intro i
    simp only [Array.getElem?_modify]
    by_cases hi : p.block = i
    · subst hi
      rw [if_pos rfl]
      cases hb : w.heap[p.block]? with
      | none => rfl
      | some ob =>
        rw [hb] at h
        cases ob with
        | cells c e f =>
          simp only at h
          by_cases hs : p.spot.isSome = true
          · rw [if_pos hs] at h; cases h
          · rw [if_neg hs] at h
            simp only [Option.map_some, hs]
            congr 2
            apply Array.ext_getElem?
            intro j
            simp only [Bool.false_eq_true, if_false]
            rw [Array.getElem?_setIfInBounds]
            by_cases hj : p.off = j
            · subst hj
              rw [if_pos rfl]
              split
              · exact h.symm
              · rw [Array.getElem?_eq_none (by omega)]
            · rw [if_neg hj]
        | _ => rfl
    · rw [if_neg hi]
  have : w.setCell p v = { w with heap := (w.setCell p v).heap } := rfl
  rw [this, e]
end Go.Proofs.YtmojaahkcpgfkaaGreatDoor
namespace Go.Proofs.YtmojaahkcpgfkaaGreatDoor
open Go.RowKit

/-- each block of cells that are no bytes, but for block b, stays -/
def Keeps (b : Nat) (w w' : World) : Prop := ∀ (k : Nat) (c : Array Value) (T : TypeId) (fz : Nat × Nat), k ≠ b → w.heap[k]? = some (.cells c T fz) → T ≠ 5 → w'.heap[k]? = some (.cells c T fz)
theorem Keeps.trans {b : Nat} {x y z : World} (h : Keeps b x y) (g : Keeps b y z) : Keeps b x z := fun k c T fz h1 h2 h3 => g k c T fz h1 (h k c T fz h1 h2 h3) h3
theorem keeps_set {b : Nat} (w : World) (j : Nat) (u : Value) : Keeps b w (w.setCell ⟨b, j, none⟩ u) := fun k c T fz h1 h2 _ => by
  rw [Below.heap_setCell _ _ _ _ (fun e => h1 e)]; exact h2
theorem keeps_alloc {b : Nat} (w : World) (o : Obj) : Keeps b w (w.alloc o) := fun k c T fz _ h2 _ => by
  rw [Below.heap_alloc _ _ _ (Array.getElem?_eq_some_iff.1 h2).1]; exact h2
theorem keeps_chg {b : Nat} {w w' : World} (h : Chg Never w w') : Keeps b w w' := fun k c T fz _ h2 _ => by
  rw [h.block k (Array.getElem?_eq_some_iff.1 h2).1 (fun x => x)]; exact h2
theorem keeps_grow {b B n : Nat} {w w' : World} {v : Value} {bs : List Value} (hown : w.ownsRowF B 5 1 v n bs) (h : w.grownBy w' v.ownBlock) : Keeps b w w' := fun k c T fz _ h2 h3 => by
  rw [h.block k (Array.getElem?_eq_some_iff.1 h2).1 ?_]
  · exact h2
  · intro e
    rcases hown.2 with ⟨rfl, _⟩ | ⟨g, cap, cur, f, rfl, _, hg, _⟩
    · cases e
    · injection e with e
      subst e
      rw [h2] at hg
      injection hg with hg
      injection hg with _ hg _
      exact h3 hg
theorem Keeps.blk3 {b B : Nat} {w w' : World} {t : TypeId} {x y z : Value} (h : Keeps b w w') (hb : Blk3 w B t x y z) (hne : B ≠ b) (ht : t ≠ 5) : Blk3 w' B t x y z := h B _ t _ hne hb ht
theorem Keeps.blk2 {b B : Nat} {w w' : World} {t : TypeId} {x y : Value} (h : Keeps b w w') (hb : Blk2 w B t x y) (hne : B ≠ b) (ht : t ≠ 5) : Blk2 w' B t x y := h B _ t _ hne hb ht

set_option maxHeartbeats 1000000 in
set_option maxRecDepth 100000 in
theorem bldk_check (B b : Nat) (bs : List Value) (w : World) (h : IsB B b bs w) :
    Calls Tryz.prog 56 #[.pointer (some ⟨b, 0, none⟩)] w fun e w' => e = .returned (.tuple #[]) ∧ BAt B b bs w' ∧ Below B w w' ∧ Keeps b w w' := by
  obtain ⟨j, hj, hjs⟩ := Option.map_eq_some_iff.1 bld_info
  rcases h with h | h
  · have c0 := h.cell0
    have hsh := h.shape
    have hfz := h.frozen0
    have hfin : BAt B b bs (w.setCell ⟨b, 0, none⟩ (.pointer (some ⟨b, 0, none⟩))) ∧ Below B w (w.setCell ⟨b, 0, none⟩ (.pointer (some ⟨b, 0, none⟩))) ∧ Keeps b w (w.setCell ⟨b, 0, none⟩ (.pointer (some ⟨b, 0, none⟩))) := ⟨h.used _, (Below.refl B w).setCell (p := ⟨b, 0, none⟩) h.1 _, keeps_set _ _ _⟩
    clear h
    go_enter Tryz.func56, Tryz.ntmps56
    go_wp2_with fail
    rw [Lib.run_to_unsafe w ⟨b, 0, none⟩ Tryz.underlying63 Tryz.underlying111 hj (by rw [hjs]; decide) hsh (Nat.zero_lt_succ 1)]
    simp only [Result.andThen]
    rw [Oper.upon_value]
    go_wp2_with fail
    rw [run_callFunc_extern Tryz.func79 (by kernel_rfl) (by kernel_rfl) (by kernel_rfl) (e := Extern.AbiNoEscape.same) (by kernel_rfl)]
    rw [Lib.run_noEscape]
    simp only [Result.andThen]
    rw [Oper.upon_value]
    go_wp2_with fail
    rw [Lib.run_from_unsafe w ⟨b, 0, none⟩ Tryz.underlying111 Tryz.underlying63 hj hsh bld_lies]
    simp only [Result.andThen]
    rw [Oper.upon_value]
    go_wp2_with fail
    go_end0
    exact ⟨rfl, hfin.1, hfin.2⟩
  · have c0 := h.cell0
    go_enter Tryz.func56, Tryz.ntmps56
    go_wp2_with fail
    rw [Lib.run_neq_ptr_same w _ Tryz.underlying63 hj]
    go_wp2_with fail
    go_end0
    exact ⟨rfl, h, Below.refl B _, fun _ _ _ _ _ h _ => h⟩
set_option maxHeartbeats 1000000 in
set_option maxRecDepth 100000 in
theorem bldk_string (B b : Nat) (bs : List Value) (s : ByteArray) (w : World) (h : IsB B b bs w) (hlen : bs.length + s.size ≤ 140737488355328) (hBw : B ≤ w.heap.size) :
    Calls Tryz.prog 37 #[.pointer (some ⟨b, 0, none⟩), .string s] w fun e w' => e = .returned (.tuple #[.int .i64 s.size, .nilIface]) ∧ BAt B b (bs ++ Lib.strCells s) w' ∧ Below B w w' ∧ Keeps b w w' := by
  obtain ⟨i0, hi, hz0, hz1, hz2⟩ := info_parts bld_byte
  go_enter Tryz.func37, Tryz.ntmps37
  go_wp2_with fail
  refine (bldk_check B b bs _ h).mono ?_
  rintro e w1 ⟨rfl, h1, hb1, hk1⟩
  obtain ⟨hB, v, hbk, hown, hne⟩ := h1
  have c0 : w1.cell? ⟨b, 0, none⟩ = some (.pointer (some ⟨b, 0, none⟩)) := by rw [Lib.cell_of_heap hbk]; rfl
  have c1 : w1.cell? ⟨b, 1, none⟩ = some v := by rw [Lib.cell_of_heap hbk]; rfl
  have hlt : b < w1.heap.size := (Array.getElem?_eq_some_iff.1 hbk).1
  have hs1 := hb1.size
  go_wp2_with (at_builtin; refine Lib.wpList_append_own_stringF _ rfl _ _ 60 9 rfl B 5 i0 Tryz.underlying60 Tryz.underlying9 hi hz0 hz1 hz2 _ _ _ rfl hown s rfl (by unfold maxLen; omega) (by omega) (by omega) ?_)
  intro v' w2 hown' hgrow _
  have hb2 : w2.heap[b]? = some (.cells #[.pointer (some ⟨b, 0, none⟩), v] 65 (0, 0)) := (hgrow.block b hlt (fun e => hne e.symm)).trans hbk
  have d0 : w2.cell? ⟨b, 0, none⟩ = some (.pointer (some ⟨b, 0, none⟩)) := by rw [Lib.cell_of_heap hb2]; rfl
  have d1 : w2.cell? ⟨b, 1, none⟩ = some v := by rw [Lib.cell_of_heap hb2]; rfl
  have f1 : w2.frozen? ⟨b, 1, none⟩ = false := Lib.frozen_of_heap hb2 1
  have hfin := Lib.BuilderAtF.put (T := 65) (e := 5) (v' := v') hB hb2 (bs' := bs ++ Lib.strCells s) (by simpa [Lib.strCells_length] using hown') (by decide)
  have hfin2 := (hb1.grown hgrow (by omega) (fun k hk => (hown.lt k hk).1)).setCell (p := ⟨b, 1, none⟩) hB v'
  have hk3 : Keeps b _ (w2.setCell ⟨b, 1, none⟩ v') := (hk1.trans (keeps_grow hown hgrow)).trans (keeps_set _ _ _)
  obtain ⟨ao, n', cap, rfl⟩ : ∃ ao n' cap, v' = .slice ao n' cap := by
    rcases hown'.2 with ⟨hv, _⟩ | ⟨g, cap, cur, fz, hv, _⟩
    · exact ⟨_, _, _, hv⟩
    · exact ⟨_, _, _, hv⟩
  clear hgrow hown hown' hbk hb2 c0 c1 hk1
  go_wp2_with fail
  go_ret2
  exact ⟨rfl, hfin, hfin2, hk3⟩
set_option maxHeartbeats 1000000 in
set_option maxRecDepth 100000 in
theorem bldk_byte1 (B b : Nat) (bs : List Value) (c : Int) (w : World) (h : IsB B b bs w) (hlen : bs.length + 1 ≤ 140737488355328) (hBw : B ≤ w.heap.size) :
    Calls Tryz.prog 45 #[.pointer (some ⟨b, 0, none⟩), .int .u8 c] w fun e w' => e = .returned .nilIface ∧ BAt B b (bs ++ [.int .u8 c]) w' ∧ Below B w w' ∧ Keeps b w w' := by
  obtain ⟨i0, hi, hz0, hz1, hz2⟩ := info_parts bld_byte
  go_enter Tryz.func45, Tryz.ntmps45
  go_wp2_with fail
  refine (bldk_check B b bs _ h).mono ?_
  rintro e w1 ⟨rfl, h1, hb1, hk1⟩
  obtain ⟨hB, v, hbk, hown, hne⟩ := h1
  have c0 : w1.cell? ⟨b, 0, none⟩ = some (.pointer (some ⟨b, 0, none⟩)) := by rw [Lib.cell_of_heap hbk]; rfl
  have c1 : w1.cell? ⟨b, 1, none⟩ = some v := by rw [Lib.cell_of_heap hbk]; rfl
  have hlt : b < w1.heap.size := (Array.getElem?_eq_some_iff.1 hbk).1
  have hs1 := hb1.size
  go_wp2_with (at_builtin; refine wpList_append_ownF _ rfl _ _ 60 rfl B 5 i0 (.int .u8 0) 1 1 Tryz.underlying60 hi hz0 hz1 hz2 rfl (by decide) _ _ _ rfl (hown.alloc _) ⟨w1.heap.size, 0, none⟩ 1 1 [.int .u8 c] rfl rfl ?c1 ?c2 (by unfold maxLen; omega) (by omega) (by simp; omega) ?_)
  case c1 =>
    intro j u hj
    match j, hj with
    | 0, hj => simp at hj; subst hj; simp [Addr.add]
  case c2 => intro u hu; simp at hu; subst hu; rfl
  intro v' w2 hown' hgrow _
  have hb2 : w2.heap[b]? = some (.cells #[.pointer (some ⟨b, 0, none⟩), v] 65 (0, 0)) := ((hgrow.block b (by simp; omega) (fun e => hne e.symm)).trans (Lib.alloc_old w1 _ b hlt)).trans hbk
  have d0 : w2.cell? ⟨b, 0, none⟩ = some (.pointer (some ⟨b, 0, none⟩)) := by rw [Lib.cell_of_heap hb2]; rfl
  have d1 : w2.cell? ⟨b, 1, none⟩ = some v := by rw [Lib.cell_of_heap hb2]; rfl
  have f1 : w2.frozen? ⟨b, 1, none⟩ = false := Lib.frozen_of_heap hb2 1
  have hfin := Lib.BuilderAtF.put (T := 65) (e := 5) (v' := v') hB hb2 (bs' := bs ++ [.int .u8 c]) (by simpa using hown') (by decide)
  have hfin2 := ((hb1.alloc (by omega) _).grown hgrow (by simp; omega) (fun k hk => (hown.lt k hk).1)).setCell (p := ⟨b, 1, none⟩) hB v'
  have hk3 : Keeps b _ (w2.setCell ⟨b, 1, none⟩ v') := ((hk1.trans (keeps_alloc _ _)).trans (keeps_grow (hown.alloc _) hgrow)).trans (keeps_set _ _ _)
  obtain ⟨ao, n', cap, rfl⟩ : ∃ ao n' cap, v' = .slice ao n' cap := by
    rcases hown'.2 with ⟨hv, _⟩ | ⟨g, cap, cur, fz, hv, _⟩
    · exact ⟨_, _, _, hv⟩
    · exact ⟨_, _, _, hv⟩
  clear hgrow hown hown' hbk hb2 c0 c1 hk1
  go_wp2_with fail
  go_ret
  exact ⟨rfl, hfin, hfin2, hk3⟩
end Go.Proofs.YtmojaahkcpgfkaaGreatDoor
namespace Go.Proofs.YtmojaahkcpgfkaaGreatDoor

def toB (x : List UInt8) : ByteArray := ⟨x.toArray⟩
theorem toB_data (x : List UInt8) : (toB x).data.toList = x := by simp [toB]
theorem toB_of (s : ByteArray) : toB s.data.toList = s := by cases s; simp [toB]
theorem toB_inj {x y : List UInt8} (h : toB x = toB y) : x = y := by rw [← toB_data x, ← toB_data y, h]
theorem toB_append (x y : List UInt8) : toB (x ++ y) = toB x ++ toB y := by
  apply ByteArray.ext
  simp [toB, ByteArray.data_append]
theorem bytes_append (s t : ByteArray) : (s ++ t).data.toList = s.data.toList ++ t.data.toList := by simp [ByteArray.data_append]

theorem map_toB : ∀ l : List ByteArray, l.map (toB ∘ fun x => x.data.toList) = l
  | [] => rfl
  | x :: l => by rw [List.map_cons, map_toB l]; rfl
/-- what stands between separators -/
def parts (d : UInt8) : List UInt8 → List (List UInt8)
  | [] => [[]]
  | c :: r => if c = d then [] :: parts d r else (c :: (parts d r).headD []) :: (parts d r).tail
theorem parts_ne (d : UInt8) : ∀ s, parts d s ≠ []
  | [] => by simp [parts]
  | c :: r => by rw [parts]; split <;> simp
theorem parts_sep (d : UInt8) (r : List UInt8) : parts d (d :: r) = [] :: parts d r := by rw [parts, if_pos rfl]
theorem parts_other {d c : UInt8} (h : c ≠ d) {r h' : List UInt8} {t : List (List UInt8)} (e : parts d r = h' :: t) : parts d (c :: r) = (c :: h') :: t := by
  rw [parts, if_neg h, e]; rfl
theorem parts_cut {d : UInt8} : ∀ {a : List UInt8} (r : List UInt8), (∀ x ∈ a, x ≠ d) → parts d (a ++ d :: r) = a :: parts d r
  | [], r, _ => parts_sep d r
  | c :: _a, r, h => parts_other (h c (List.mem_cons_self ..)) (parts_cut r (fun x hx => h x (List.mem_cons_of_mem _ hx)))
theorem parts_none {d : UInt8} : ∀ {a : List UInt8}, (∀ x ∈ a, x ≠ d) → parts d a = [a]
  | [], _ => rfl
  | c :: _a, h => parts_other (h c (List.mem_cons_self ..)) (parts_none (fun x hx => h x (List.mem_cons_of_mem _ hx)))
theorem parts_snoc (d : UInt8) : ∀ s, parts d (s ++ [d]) = parts d s ++ [[]]
  | [] => by rw [List.nil_append, parts_sep]; rfl
  | c :: r => by
    by_cases h : c = d
    · subst h
      rw [List.cons_append, parts_sep, parts_sep, parts_snoc, List.cons_append]
    · obtain ⟨h', t, e⟩ := List.exists_cons_of_ne_nil (parts_ne d r)
      rw [List.cons_append, parts_other h e, parts_other (h' := h') (t := t ++ [[]]) h (by rw [parts_snoc, e]; rfl), List.cons_append]
theorem parts_last {d : UInt8} {c : UInt8} (hc : c ≠ d) : ∀ s, (parts d (s ++ [c])).getLast? ≠ some []
  | [] => by rw [List.nil_append, parts_none (by simpa using hc)]; simp
  | x :: r => by
    obtain ⟨h', t, e⟩ := List.exists_cons_of_ne_nil (parts_ne d (r ++ [c]))
    have ih := parts_last hc r
    by_cases h : x = d
    · subst h
      rw [List.cons_append, parts_sep, e, List.getLast?_cons_cons, ← e]
      exact ih
    · rw [List.cons_append, parts_other h e]
      rw [e] at ih
      cases t with
      | nil => simp
      | cons y t => rw [List.getLast?_cons_cons] at ih ⊢; exact ih
theorem parts_flat (d : UInt8) : ∀ s, ((parts d s).dropLast.map fun x => x ++ [d]).flatten ++ ((parts d s).getLast?.getD []) = s
  | [] => by simp [parts]
  | c :: r => by
    obtain ⟨h', t, e⟩ := List.exists_cons_of_ne_nil (parts_ne d r)
    have ih := parts_flat d r
    rw [e] at ih
    by_cases h : c = d
    · subst h
      rw [parts_sep, e, List.dropLast_cons_of_ne_nil (by simp), List.getLast?_cons_cons]
      simp only [List.map_cons, List.flatten_cons, List.nil_append, List.cons_append]
      rw [ih]
    · rw [parts_other h e]
      cases t with
      | nil =>
        simp only [List.dropLast_singleton, List.map_nil, List.flatten_nil, List.nil_append, List.getLast?_singleton, Option.getD_some] at ih ⊢
        rw [ih]
      | cons y t =>
        simp only [List.dropLast_cons_of_ne_nil (l := y :: t) (by simp), List.getLast?_cons_cons, List.map_cons, List.flatten_cons, List.cons_append] at ih ⊢
        rw [ih]
theorem split_parts (d : UInt8) : ∀ s, Lib.split s [d] = parts d s
  | [] => by
    have : Lib.index [] [d] = -1 := rfl
    unfold Lib.split
    rw [Lib.count_miss this]; rfl
  | c :: r => by
    have ih := split_parts d r
    by_cases h : c = d
    · subst h
      have e : Lib.index (c :: r) [c] = (0 : Nat) := by rw [Lib.index_one]; simp [Lib.indexByte]
      unfold Lib.split at ih ⊢
      rw [Lib.count_hit (by simp) e, parts_sep, Nat.add_comm, Lib.splitK, if_neg (by rw [e]; decide), e]
      simp only [Int.toNat_natCast, Nat.zero_add, List.take_zero, List.length_cons, List.length_nil, List.drop_succ_cons, List.drop_zero]
      rw [ih]
    · have e : Lib.index (c :: r) [d] = if Lib.index r [d] == -1 then -1 else Lib.index r [d] + 1 := by
        rw [Lib.index_one, Lib.index_one, Lib.indexByte, if_neg (by simpa using h)]
      by_cases hm : Lib.index r [d] = -1
      · have e2 : Lib.index (c :: r) [d] = -1 := by rw [e, hm]; rfl
        unfold Lib.split at ih ⊢
        rw [Lib.count_miss hm] at ih
        rw [Lib.count_miss e2]
        exact (parts_other h ih.symm).symm
      · have hge := Lib.index_ge r [d]
        obtain ⟨i, hi⟩ : ∃ i : Nat, Lib.index r [d] = i := ⟨(Lib.index r [d]).toNat, by omega⟩
        have e2 : Lib.index (c :: r) [d] = ((i + 1 : Nat) : Int) := by
          rw [e, if_neg (by simpa using hm), hi]; rfl
        unfold Lib.split at ih ⊢
        rw [Lib.count_hit (by simp) hi, Nat.add_comm, Lib.splitK, if_neg (by rw [hi]; simp), hi] at ih
        rw [Lib.count_hit (by simp) e2, Nat.add_comm, Lib.splitK, if_neg (by rw [e2]; intro hh; have := eq_of_beq hh; omega), e2]
        simp only [Int.toNat_natCast, List.length_cons, List.length_nil] at ih ⊢
        rw [parts_other h ih.symm]
        rfl
theorem splitB_parts (d : UInt8) (s : ByteArray) : Lib.splitB ⟨#[d]⟩ 0 (Lib.countB s ⟨#[d]⟩) s = (parts d s.data.toList).map toB := by
  have e := Lib.splitB_data ⟨#[d]⟩ 0 (Lib.countB s ⟨#[d]⟩) s
  have e2 : Lib.splitK [d] 0 (Lib.countB s ⟨#[d]⟩) s.data.toList = parts d s.data.toList := split_parts d _
  have e3 : ((Lib.splitB ⟨#[d]⟩ 0 (Lib.countB s ⟨#[d]⟩) s).map (·.data.toList)).map toB = Lib.splitB ⟨#[d]⟩ 0 (Lib.countB s ⟨#[d]⟩) s := by
    rw [List.map_map]
    exact map_toB _
  rw [← e3, e]
  congr 1

/-! ### texts -/
def joinL (l : List ByteArray) : List UInt8 := (l.map fun x => x.data.toList ++ [10]).flatten
def joinOf (l : List ByteArray) : ByteArray := toB (joinL l)
def joinR (l : List ByteArray) : ByteArray := if linesFault l = 0 then joinOf l else ByteArray.empty
def linesOf (s : ByteArray) : List ByteArray := (parts 10 s.data.toList).dropLast.map toB
def splitFault (s : ByteArray) : Int := if (parts 10 s.data.toList).getLast? = some [] then linesFault (linesOf s) else 5
def splitR (s : ByteArray) : List ByteArray := if splitFault s = 0 then linesOf s else []

theorem hasNl_not {s : ByteArray} (h : hasNl s = false) : ∀ x ∈ s.data.toList, x ≠ 10 := by
  intro x hx e
  subst e
  unfold hasNl at h
  rw [List.contains_eq_mem, decide_eq_false_iff_not] at h
  exact h hx
theorem joinL_nil : joinL [] = [] := rfl
theorem joinL_cons (x : ByteArray) (l : List ByteArray) : joinL (x :: l) = x.data.toList ++ 10 :: joinL l := by simp [joinL]
theorem joinL_append (l m : List ByteArray) : joinL (l ++ m) = joinL l ++ joinL m := by simp [joinL]
theorem parts_join : ∀ l : List ByteArray, (∀ x ∈ l, hasNl x = false) → parts 10 (joinL l) = l.map (·.data.toList) ++ [[]]
  | [], _ => rfl
  | x :: l, h => by
    rw [joinL_cons, parts_cut _ (hasNl_not (h x (List.mem_cons_self ..))), parts_join l (fun y hy => h y (List.mem_cons_of_mem _ hy))]
    rfl
theorem linesOf_join {l : List ByteArray} (h : ∀ x ∈ l, hasNl x = false) : linesOf (joinOf l) = l := by
  unfold linesOf joinOf
  rw [toB_data, parts_join l h, List.dropLast_concat, List.map_map]
  exact map_toB l
theorem lineFault_nl {x : ByteArray} (h : lineFault x = 0) : hasNl x = false := by
  unfold lineFault at h
  by_cases e : hasNl x = true
  · rw [if_pos e] at h; cases h
  · simpa using e
theorem split_join {l : List ByteArray} (h : linesFault l = 0) : splitFault (joinOf l) = 0 ∧ splitR (joinOf l) = l := by
  have hl : ∀ x ∈ l, hasNl x = false := by
    unfold linesFault at h
    by_cases e : 60 < l.length
    · rw [if_pos e] at h; cases h
    · rw [if_neg e, firstOf_zero] at h
      exact fun x hx => lineFault_nl (h x hx)
  have e1 : splitFault (joinOf l) = 0 := by
    unfold splitFault
    rw [if_pos (by unfold joinOf; rw [toB_data, parts_join l hl]; simp), linesOf_join hl]
    exact h
  exact ⟨e1, by unfold splitR; rw [if_pos e1, linesOf_join hl]⟩
theorem join_lines {s : ByteArray} (h : (parts 10 s.data.toList).getLast? = some []) : joinOf (linesOf s) = s := by
  unfold joinOf joinL linesOf
  have := parts_flat 10 s.data.toList
  rw [h] at this
  simp only [Option.getD_some, List.append_nil] at this
  rw [List.map_map]
  have e : ((fun x : ByteArray => x.data.toList ++ [10]) ∘ toB) = fun x => x ++ [10] := by
    funext x
    simp [toB_data]
  rw [e, this, toB_of]
theorem join_split {s : ByteArray} (h : splitFault s = 0) : linesFault (splitR s) = 0 ∧ joinOf (splitR s) = s := by
  have h' := h
  unfold splitFault at h'
  by_cases e : (parts 10 s.data.toList).getLast? = some []
  · rw [if_pos e] at h'
    unfold splitR
    rw [if_pos h]
    exact ⟨h', join_lines e⟩
  · rw [if_neg e] at h'; cases h'
theorem splitFault_empty : splitFault ByteArray.empty = 0 := by decide
theorem splitR_empty : splitR ByteArray.empty = [] := by decide

/-! ### paths -/
def letterB (c : UInt8) : Bool := decide (97 ≤ c.toNat) && decide (c.toNat ≤ 122) || decide (48 ≤ c.toNat) && decide (c.toNat ≤ 57) || decide (c.toNat = 46) || decide (c.toNat = 45)
def nameOk (x : List UInt8) : Bool := !(x == []) && !(x == [46]) && !(x == [46, 46]) && x.all letterB
def pathFault (s : ByteArray) : Int := if 20 < s.size then 3 else if (parts 47 s.data.toList).all nameOk then 0 else 5
end Go.Proofs.YtmojaahkcpgfkaaGreatDoor
