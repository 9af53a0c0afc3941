/-
  PARTS: THE WALKS of tree.Find (a binary search).; append OF A WHOLE SLICE whose elements lie in blocks of their own, to one of the call's own. No program in sight.; THE WALKS of the document's DropOf, PutOf.; THE WALKS OF LAYER 4: slices.Clone, hunk.Copy.; THE WALKS of tree.Copy, and of slices.Concat of files.; THE WALKS of slices.Grow of nil, slices.Concat, of files.; THE WALKS of tree.at, Get, Drop, Put.; THE WALKS of tree.Drop, Put.
-/
import Derived.Test.YtmjpfoeaobdaeaaGreatDoorRa8
import Derived.Test.YtmjpfoeaobdaeaaGreatDoorRa6
import Derived.Test.YtmjpfoeaobdaeaaGreatDoorRa7
import Derived.Deep.RegionHeld3
import Derived.Test.YtmjpfoeaobdaeaaGreatDoorRa2
set_option linter.unusedVariables false
set_option linter.unusedSimpArgs false
namespace Go.Proofs.YtmjpfoeaobdaeaaGreatDoor
open Go.RowKit

set_option maxRecDepth 100000 in
theorem find_cmp (x : File) (p : ByteArray) (lv : Value) (w : World) :
    Calls Tryz.prog 121 #[.agg #[.string x.path, lv], .string p] w fun e w' => e = .returned (.int .i64 (Lib.compareBytes x.path.data.toList p.data.toList)) ∧ Chg Never w w' := by
  go_enter Tryz.func121, Tryz.ntmps121
  go_wp2_with fail
  refine (Tryz.strings_Compare x.path p _).mono ?_
  rintro e w1 ⟨rfl, hw1⟩
  rw [hw1]
  go_wp2_with fail
  go_ret
  exact ⟨rfl, (Chg.refl _ _).alloc _⟩
theorem cmp_less {a b : ByteArray} : (Lib.compareBytes a.data.toList b.data.toList < 0 ↔ less a b = true) ∧ (Lib.compareBytes a.data.toList b.data.toList = 0 ↔ a = b) := by
  obtain ⟨h1, h2⟩ := compare_bl a.data.toList b.data.toList
  refine ⟨?_, ?_⟩
  · rw [h1]; unfold less; rw [Lib.toList_data, Lib.toList_data]
  · rw [h2]
    exact ⟨fun h => ByteArray.ext (Array.toList_inj.1 h), fun h => by rw [h]⟩

structure BSt (t : List File) (p : ByteArray) (a b : Nat) : Prop where
  le : a ≤ b
  top : b ≤ t.length
  lo : ∀ q f, q < a → t[q]? = some f → less f.path p = true
  hi : ∀ q f, b ≤ q → t[q]? = some f → less f.path p = false
theorem bst_start (t : List File) (p : ByteArray) : BSt t p 0 t.length :=
  ⟨Nat.zero_le _, Nat.le_refl _, fun q f h => absurd h (Nat.not_lt_zero q), fun q f h hf => by have := (List.getElem?_eq_some_iff.1 hf).1; omega⟩
theorem BSt.up {t : List File} {p : ByteArray} {a b c : Nat} {x : File} (h : BSt t p a b) (hs : Sorted t) (h1 : a ≤ c) (h2 : c < b) (hx : t[c]? = some x) (hl : less x.path p = true) : BSt t p (c + 1) b :=
  ⟨by omega, h.top, fun q f hq hf => by
    by_cases e : q = c
    · subst e; rw [hx] at hf; injection hf with hf; rw [← hf]; exact hl
    · exact less_trans (sorted_mono hs (show q < c by omega) hf hx) hl, h.hi⟩
theorem BSt.down {t : List File} {p : ByteArray} {a b c : Nat} {x : File} (h : BSt t p a b) (hs : Sorted t) (h1 : a ≤ c) (h2 : c < b) (hx : t[c]? = some x) (hl : less x.path p = false) : BSt t p a c :=
  ⟨h1, by have := h.top; omega, h.lo, fun q f hq hf => by
    by_cases e : q = c
    · subst e; rw [hx] at hf; injection hf with hf; rw [← hf]; exact hl
    · have hm := sorted_mono hs (show c < q by omega) hx hf
      cases hb : less f.path p with
      | false => rfl
      | true => have := less_trans hm hb; rw [hl] at this; cases this⟩
theorem BSt.pos {t : List File} {p : ByteArray} {a : Nat} (h : BSt t p a a) : posOf t p = a := pos_unique h.lo (fun f hf => h.hi a f (Nat.le_refl _) hf) h.top

set_option maxHeartbeats 2000000 in
set_option maxRecDepth 100000 in
theorem bs_any (t : List File) (p : ByteArray) (v : Value) (w : World) (h : Rdv w Never v t) (hs : Sorted t) (hl : t.length ≤ 1000000) :
    Calls Tryz.prog 120 #[v, .string p, .func (.func 121) #[] #[]] w fun e w' => e = .returned (.tuple #[.int .i64 (posOf t p), .bool (isAt t p)]) ∧ Chg Never w w' := by
  have HS := Lib.hid hs
  clear hs
  obtain ⟨a, cap, rfl, h1, h2, h3⟩ := rdv_slice h
  unfold maxLen at h2
  go_enter Tryz.func120, Tryz.ntmps120
  go_wp2_with fail
  go_loopw [9, 10] (fun i j wr => ∃ x y : Nat, i = .int .i64 x ∧ j = .int .i64 y ∧ Chg Never w wr ∧ BSt t p x y) (fun i j _ => (intOf j).toNat - (intOf i).toNat)
  case atStart => exact ⟨0, t.length, rfl, rfl, Chg.refl _ _, bst_start t p⟩
  case round =>
    obtain ⟨x, y, rfl, rfl, hc, hB⟩ := hrel
    have hle := hB.le
    have htop := hB.top
    by_cases hlt : x < y
    · obtain ⟨z, hz⟩ : ∃ z, (x + y) / 2 = z := ⟨_, rfl⟩
      have zI : ((x : Int) + y) / 2 = z := by omega
      have hz1 : x ≤ z := by omega
      have hz2 : z < y := by omega
      obtain ⟨f, hf⟩ : ∃ f, t[z]? = some f := ⟨t[z]'(by omega), by simp [show z < t.length by omega]⟩
      obtain ⟨b, off, lv, rfl, _, _, c0, c1, _, _⟩ := elems_file h3 hf
      have c0 := hc.cellNever c0
      have c1 := hc.cellNever c1
      have HX := Lib.hid hf
      clear hf
      cases hq : less f.path p with
      | true =>
        have t1 : decide (Lib.compareBytes f.path.data.toList p.data.toList < 0) = true := decide_eq_true (cmp_less.1.2 hq)
        go_wp2_with fail
        refine (find_cmp f p _ _).mono ?_
        rintro e w2 ⟨rfl, hc2⟩
        have hc2 := hc.trans hc2
        clear c0 c1
        go_wp2_with fail
        go_roundw
        case rel => exact ⟨z + 1, y, by go_num, rfl, hc2, hB.up HS.out hz1 hz2 HX.out hq⟩
        case measure => simp [intOf] <;> omega
      | false =>
        have t1 : decide (Lib.compareBytes f.path.data.toList p.data.toList < 0) = false := decide_eq_false (fun hh => by rw [cmp_less.1.1 hh] at hq; cases hq)
        go_wp2_with fail
        refine (find_cmp f p _ _).mono ?_
        rintro e w2 ⟨rfl, hc2⟩
        have hc2 := hc.trans hc2
        clear c0 c1
        go_wp2_with fail
        go_roundw
        case rel => exact ⟨x, z, rfl, rfl, hc2, hB.down HS.out hz1 hz2 HX.out hq⟩
        case measure => simp [intOf] <;> omega
    · obtain rfl : x = y := by omega
      have HP := Lib.hid hB.pos
      by_cases hxt : x < t.length
      · obtain ⟨f, hf⟩ : ∃ f, t[x]? = some f := ⟨t[x], by simp [hxt]⟩
        obtain ⟨b, off, lv, rfl, _, _, c0, c1, _, _⟩ := elems_file h3 hf
        have c0 := hc.cellNever c0
        have c1 := hc.cellNever c1
        by_cases e : f.path = p
        · have HI : Hid (isAt t p = true) := by unfold Hid isAt; rw [HP.out, hf]; simp [e]
          have t1 : (Lib.compareBytes f.path.data.toList p.data.toList == 0) = true := beq_iff_eq.2 (cmp_less.2.2 e)
          clear hf e
          go_wp2_with fail
          refine (find_cmp f p _ _).mono ?_
          rintro e w2 ⟨rfl, hc2⟩
          have hc2 := hc.trans hc2
          clear c0 c1
          go_wp2_with fail
          go_ret2
          exact ⟨by rw [HP.out, HI.out]; rfl, hc2⟩
        · have HI : Hid (isAt t p = false) := by unfold Hid isAt; rw [HP.out, hf]; simp [e]
          have t1 : (Lib.compareBytes f.path.data.toList p.data.toList == 0) = false := beq_eq_false_iff_ne.2 (fun hh => e (cmp_less.2.1 hh))
          clear hf e
          go_wp2_with fail
          refine (find_cmp f p _ _).mono ?_
          rintro e w2 ⟨rfl, hc2⟩
          have hc2 := hc.trans hc2
          clear c0 c1
          go_wp2_with fail
          go_ret2
          exact ⟨by rw [HP.out, HI.out]; rfl, hc2⟩
      · have HI : Hid (isAt t p = false) := by unfold Hid isAt; rw [HP.out, List.getElem?_eq_none (by omega)]; rfl
        go_wp2_with fail
        go_ret2
        exact ⟨by rw [HP.out, HI.out]; rfl, hc⟩

set_option maxHeartbeats 2000000 in
set_option maxRecDepth 100000 in
theorem treefind_any (t : List File) (p : ByteArray) (v : Value) (w : World) (h : Rdv w Never v t) (hs : Sorted t) (hl : t.length ≤ 1000000) :
    Calls Tryz.prog 85 #[v, .string p] w fun e w' => e = .returned (.tuple #[.int .i64 (posOf t p), .bool (isAt t p)]) ∧ Chg Never w w' := by
  obtain ⟨a, cap, rfl, h1, h2, h3⟩ := rdv_slice h
  unfold maxLen at h2
  go_enter Tryz.func85, Tryz.ntmps85
  go_wp2_with fail
  refine (bs_any t p _ _ h hs hl).mono ?_
  rintro e w1 ⟨rfl, hc⟩
  go_wp2_with fail
  go_ret2
  exact ⟨rfl, hc⟩
end Go.Proofs.YtmjpfoeaobdaeaaGreatDoor
namespace Go.Proofs.YtmjpfoeaobdaeaaGreatDoor
open Go.RowKit

theorem run_many2 {P : Program} {α : Type} [Dat α] {t ty e : TypeId} (hP : ElemOk P t e (Dat.n α)) {w0 : World} {O : Nat → Prop} {v x : Value} {l m : List α}
    (hown : Own e w0 O v l) (hx : Rdv w0 (fun k => O k ∨ v.ownBlock = some k) x m) (hO : ∀ k, O k → k < w0.heap.size) (hlen : l.length + m.length ≤ 1000000000) :
    ∃ v' w', (Builtin.append_ #[t, t] ty #[v, x]).run P w0 = .ok v' w' ∧ Own e w' O v' (l ++ m) ∧ Chg (OwnB v) w0 w' ∧ (∀ k, v'.ownBlock = some k → v.ownBlock = some k ∨ w0.heap.size ≤ k) := by
  obtain ⟨a, cap, rfl, c1, c2, hel⟩ := rdv_slice hx
  rcases Nat.eq_zero_or_pos m.length with h0 | hpos
  · have : m = [] := List.eq_nil_of_length_eq_zero h0
    subst this
    refine ⟨v, w0, ?_, by rw [List.append_nil]; exact hown, Chg.refl _ _, fun k hk => .inl hk⟩
    obtain ⟨xs, hrow, _⟩ := hown
    exact run_append_empty hP hrow a cap
  · obtain ⟨b, off, rfl⟩ : ∃ b off, a = some ⟨b, off, none⟩ := by
      obtain ⟨b, off, es, ha, _⟩ := hel 0 m[0] (by simp [hpos])
      exact ⟨b, off, ha⟩
    obtain ⟨i, z, hi, hz, hsz, hzs, hby⟩ := hP.info
    obtain ⟨xs, hrow, hb, hels⟩ := id hown
    obtain ⟨news, n1, n2, n3, n4⟩ := elems_cells hel m.length (Nat.le_refl _)
    have hpos' := Dat.pos (α := α)
    have hcells : ∀ j u, news[j]? = some u → w0.cell? ((⟨b, off, none⟩ : Addr).add j) = some u := by
      intro j u hj
      have e1 : (⟨b, off, none⟩ : Addr).add j = ⟨b, off + j, none⟩ := by unfold Addr.add; split <;> simp_all
      rw [e1]
      exact n2 j u hj
    have hbound : (l.length + m.length) * i.bytes ≤ 140737488355328 := by
      have := Nat.mul_le_mul hlen hby
      omega
    obtain ⟨v', w', hrun, hown', hgrow, hnil⟩ := run_append_own (P := P) w0 0 t ty e i z (Dat.n α) i.bytes hP.ht hi hz hsz rfl hzs hpos' v l.length xs hrow
      ⟨b, off, none⟩ m.length cap news n1 hcells n3 (by unfold maxLen; omega) hbound (Nat.zero_le _)
    obtain ⟨kb, hkb, hkb'⟩ := append_block (P := P) w0 0 t ty e i z (Dat.n α) i.bytes hP.ht hi hz hsz rfl v l.length xs hrow
      ⟨b, off, none⟩ m.length cap news n1 hcells n3 (by unfold maxLen; omega) hbound (by omega) hrun
    have hc : Chg (OwnB v) w0 w' := Chg.of_grown hgrow
    have hsub : ∀ k, k < w0.heap.size → (O k ∨ v'.ownBlock = some k) → (O k ∨ v.ownBlock = some k) := by
      rintro k hk (h | h)
      · exact .inl h
      · rw [hkb] at h
        injection h with h
        subst h
        rcases hkb' with h | h
        · exact .inr h
        · omega
    refine ⟨v', w', hrun, ⟨xs ++ news, ?_, ?_, ?_⟩, hc, fun k hk => by rw [hkb] at hk; injection hk with hk; subst hk; exact hkb'.imp_right (fun h => Nat.le_of_eq h.symm)⟩
    · rw [List.length_append]; exact hown'
    · intro k hk ho
      rw [hkb] at hk
      injection hk with hk
      subst hk
      rcases hkb' with h | h
      · exact hb _ h ho
      · exact absurd (hO _ ho) (by omega)
    · intro j y hj
      have hxl : xs.length = l.length * Dat.n α := hrow.1
      rcases Nat.lt_or_ge j l.length with hjl | hjl
      · rw [List.getElem?_append_left hjl] at hj
        have hle : j * Dat.n α + Dat.n α ≤ xs.length := by rw [hxl, ← Nat.succ_mul]; exact Nat.mul_le_mul_right _ hjl
        rw [List.drop_append_of_le_length (by omega), List.take_append_of_le_length (by rw [List.length_drop]; omega)]
        exact Dat.keep (hels j y hj) hc (fun k _ hk => .inr hk) hsub
      · rw [List.getElem?_append_right hjl] at hj
        have hjm := (List.getElem?_eq_some_iff.1 hj).1
        have e1 : (xs ++ news).drop (j * Dat.n α) = news.drop ((j - l.length) * Dat.n α) := by
          have e2 : j * Dat.n α = xs.length + (j - l.length) * Dat.n α := by rw [hxl, ← Nat.add_mul]; congr 1; omega
          rw [e2, List.drop_append]
          simp
        rw [e1]
        exact Dat.keep (n4 _ y hjm hj) hc (fun k _ hk => .inr hk) hsub

theorem wpList_many2 {P : Program} {ops : Array Oper} {rest : List Oper} {o : Oper} {a : Act} {Q : Exit → Act → World → Prop} (hgd : o.guard = none) (s x : Operand) (t : TypeId)
    (ho : o.op = .call { callee := .builtin .append, args := #[s, x], argTypes := #[t, t] }) {α : Type} [Dat α] {e : TypeId} (hP : ElemOk P t e (Dat.n α)) {w0 : World} {O : Nat → Prop} {v u : Value} {l m : List α}
    (hs : a.eval s = v) (hx : a.eval x = u) (hown : Own e w0 O v l) (hu : Rdv w0 (fun k => O k ∨ v.ownBlock = some k) u m) (hO : ∀ k, O k → k < w0.heap.size) (hlen : l.length + m.length ≤ 1000000000)
    (h : ∀ v' w', Own e w' O v' (l ++ m) → Chg (OwnB v) w0 w' → (∀ k, v'.ownBlock = some k → v.ownBlock = some k ∨ w0.heap.size ≤ k) → wpList P ops Q rest (a.put o.dst v') w') :
    wpList P ops Q (o :: rest) a w0 := by
  refine wpList_plain hgd fun K hK => ?_
  obtain ⟨v', w', hrun, h1, h2, h3⟩ := run_many2 (ty := o.type) hP hown hu hO hlen
  unfold Oper.wp execOp
  simp only [ho, resolve, invoke, builtin, Sem.run_bind, Sem.run_pure, Result.andThen_ok, List.map_toArray, List.map_cons, List.map_nil, hs, hx, hrun]
  exact hK _ _ (h v' w' h1 h2 h3)

structure OwnN {α : Type} [Dat α] (e : TypeId) (w0 wr : World) (v : Value) (l : List α) : Prop where
  own : Own e wr Never v l
  new : ∀ k, v.ownBlock = some k → w0.heap.size ≤ k
  chg : Chg Never w0 wr
theorem ownN_nil {α : Type} [Dat α] (e : TypeId) {w0 wr : World} (h : Chg Never w0 wr) : OwnN e w0 wr (.slice none 0 0) ([] : List α) :=
  ⟨own_nil _ _ _, fun k hk => by simp [Value.ownBlock] at hk, h⟩
theorem OwnN.step {α : Type} [Dat α] {e : TypeId} {w0 wr w' : World} {v v' : Value} {l l' : List α} (h : OwnN e w0 wr v l) (hown : Own e w' Never v' l') (hc : Chg (OwnB v) wr w') (hk : ∀ k, v'.ownBlock = some k → v.ownBlock = some k ∨ wr.heap.size ≤ k) : OwnN e w0 w' v' l' :=
  ⟨hown, fun k hk' => (hk k hk').elim (h.new k) (fun hh => Nat.le_trans h.chg.size hh), h.chg.trans' hc (fun i hi hh => absurd (h.new i hh) (by omega))⟩
theorem OwnN.step1 {α : Type} [Dat α] {e : TypeId} {w0 wr w' : World} {v v' : Value} {l l' : List α} (h : OwnN e w0 wr v l) (hown : Own e w' Never v' l') (hc : Chg (OwnB v) wr w') (hk : ∃ k, v'.ownBlock = some k ∧ (v.ownBlock = some k ∨ wr.heap.size ≤ k)) : OwnN e w0 w' v' l' :=
  h.step hown hc (fun k hk' => by
    obtain ⟨j, h1, h2⟩ := hk
    rw [h1] at hk'
    injection hk' with hk'
    subst hk'
    exact h2)
theorem OwnN.never {α : Type} [Dat α] {e : TypeId} {w0 wr w' : World} {v : Value} {l : List α} (h : OwnN e w0 wr v l) (hc : Chg Never wr w') : OwnN e w0 w' v l := ⟨h.own.never hc, h.new, h.chg.trans hc⟩
theorem OwnN.away {α β : Type} [Dat α] [Dat β] {e : TypeId} {w0 wr : World} {v u : Value} {l : List α} {x : β} (h : OwnN e w0 wr v l) (hu : Rdv w0 Never u x) : Rdv wr (fun k => Never k ∨ v.ownBlock = some k) u x :=
  (hu.sub (O' := fun k => Never k ∨ v.ownBlock = some k) (fun k hk hh => by
    rcases hh with hh | hh
    · exact hh
    · exact absurd (h.new k hh) (by omega))).never h.chg
end Go.Proofs.YtmjpfoeaobdaeaaGreatDoor
namespace Go.Proofs.YtmjpfoeaobdaeaaGreatDoor
open Go.RowKit

theorem elemOk_file : ElemOk Tryz.prog 29 70 2 := elemOk_of Tryz.underlying29 (z := .agg #[.string ⟨#[]⟩, .slice none 0 0]) (b := 40) (by kernel_rfl) rfl (by decide)
theorem size_file (w : World) : (sizeOf (Tryz.prog.elem 29)).run Tryz.prog w = .ok 2 w := by kernel_rfl

set_option maxHeartbeats 1000000 in
set_option maxRecDepth 100000 in
theorem refDrop_any (t : List File) (k : Nat) (v : Value) (w : World) (h : Rdv w Never v t) (hk : k < t.length) (hl : t.length ≤ 1000000) :
    Calls Tryz.prog 28 #[v, .int .i64 k] w fun e w' => ∃ r, e = .returned r ∧ Chg Never w w' ∧ Rdv w' Never r (dropAt t k) := by
  obtain ⟨a, cap, rfl, h1, h2, _⟩ := rdv_slice h
  unfold maxLen at h2
  obtain ⟨sb1, u0, u1, hrunH, hsub1⟩ := slice_gen (P := Tryz.prog) (t := 29) (by kernel_rfl) size_file h 0 k (Nat.zero_le _) (by omega)
  have hrunH := fun (wx : World) => hrunH k wx rfl rfl
  clear u0 u1
  rw [Nat.sub_zero, Nat.sub_zero] at hrunH hsub1
  rw [List.drop_zero] at hsub1
  obtain ⟨sb2, u0, hrunL, u1, hsub2⟩ := slice_gen (P := Tryz.prog) (t := 29) (by kernel_rfl) size_file h (k + 1) t.length (by omega) (Nat.le_refl _)
  have hrunL := fun (wx : World) => hrunL ((k : Int) + 1) wx (by push_cast; rfl) rfl
  clear u0 u1
  rw [List.take_of_length_le (by rw [List.length_drop]; omega)] at hsub2
  have hn := ownN_nil (α := File) 70 (Chg.refl Never w)
  have hle1 : ([] : List File).length + (t.take k).length ≤ 1000000000 := by simp; omega
  have hle2 : ([] ++ t.take k).length + (t.drop (k + 1)).length ≤ 1000000000 := by simp; omega
  go_enter Tryz.func28, Tryz.ntmps28
  go_wp2_with (first
    | (at_builtin; refine wpList_many2 (by rfl) _ _ 29 (by rfl) elemOk_file (O := Never) (l := []) (m := t.take k) (by rfl) (by rfl) hn.own (hn.away hsub1) (fun _ h => h.elim) hle1 ?_; intro v1 w1 hw1 hd1 hk1; have hn1 := hn.step hw1 hd1 hk1; clear hw1 hd1 hk1 hn; obtain ⟨s1, n1, c1, rfl⟩ := own_isSlice hn1.own)
    | (at_builtin; refine wpList_many2 (by rfl) _ _ 29 (by rfl) elemOk_file (O := Never) (l := [] ++ t.take k) (m := t.drop (k + 1)) (by rfl) (by rfl) hn1.own (hn1.away hsub2) (fun _ h => h.elim) hle2 ?_; intro v2 w2 hw2 hd2 hk2; have hn2 := hn1.step hw2 hd2 hk2; clear hw2 hd2 hk2 hn1; obtain ⟨s2, n2, c2, rfl⟩ := own_isSlice hn2.own))
  go_ret
  exact ⟨_, rfl, hn2.chg, hn2.own.rdv.sub (fun _ _ h => h.elim)⟩

theorem putLoop_step (f x : File) (done : Bool) (r : List File) : putLoop f done (x :: r) = (if !done && leqB f.path x.path then [f] else []) ++ (if x.path = f.path then [] else [x]) ++ putLoop f (done || leqB f.path x.path) r := by rw [putLoop]
set_option maxHeartbeats 2000000 in
set_option maxRecDepth 100000 in
theorem refPut_any (t : List File) (f : File) (v fv : Value) (w : World) (h : Rdv w Never v t) (hf : Rdv w Never fv f.lines) (hp : f.path.size ≤ maxLen) (hl : t.length ≤ 1000000) :
    Calls Tryz.prog 51 #[v, .agg #[.string f.path, fv]] w fun e w' => ∃ r, e = .returned r ∧ Chg Never w w' ∧ Rdv w' Never r (putLoop f false t) := by
  obtain ⟨a, cap, rfl, h1, h2, _⟩ := rdv_slice h
  obtain ⟨fa, fcap, rfl, _, _, _⟩ := rdv_slice hf
  unfold maxLen at h2
  have hA : Chg Never w (w.alloc (.cells #[.string f.path, .slice fa f.lines.length fcap] 70)) := (Chg.refl Never w).alloc _
  have b0 : (w.alloc (.cells #[.string f.path, .slice fa f.lines.length fcap] 70)).cell? ⟨w.heap.size, 0, none⟩ = some (.string f.path) := by simp only [World.cell?]; rw [heap_alloc_new]; rfl
  have b1 : (w.alloc (.cells #[.string f.path, .slice fa f.lines.length fcap] 70)).cell? ⟨w.heap.size, 1, none⟩ = some (.slice fa f.lines.length fcap) := by simp only [World.cell?]; rw [heap_alloc_new]; rfl
  go_enter Tryz.func51, Tryz.ntmps51
  go_wp2_with fail
  generalize w.alloc (.cells #[.string f.path, .slice fa f.lines.length fcap] 70) = w1 at hA b0 b1 ⊢
  generalize w.heap.size = B at b0 b1 ⊢
  have h := h.never hA
  have hf := hf.never hA
  obtain ⟨_, _, hav, _, _, h3⟩ := rdv_slice h
  simp only [Value.slice.injEq, true_and] at hav
  obtain ⟨rfl, rfl⟩ := hav
  go_loopw [5, 6, 7] (fun o dn i wr => ∃ (k : Nat) (done : Bool) (L : List File), k ≤ t.length ∧ i = .int .i64 k ∧ dn = .bool done ∧ OwnN 70 w1 wr o L ∧ L.length ≤ 2 * k ∧ Hid (L ++ putLoop f done (t.drop k) = putLoop f false t)) (fun _ _ i _ => t.length - (intOf i).toNat)
  case atStart => exact ⟨0, false, [], Nat.zero_le _, rfl, rfl, ownN_nil _ (Chg.refl _ _), Nat.le_refl _, rfl⟩
  case round =>
    obtain ⟨k, done, L, hk, rfl, rfl, hn, hL, hP⟩ := hrel
    have q0 := hn.chg.cellNever b0
    have q1 := hn.chg.cellNever b1
    by_cases hlt : k < t.length
    · obtain ⟨x, hx⟩ : ∃ x, t[k]? = some x := ⟨t[k], by simp [hlt]⟩
      obtain ⟨b, off, lv, rfl, _, _, c0, c1, hps, hlv⟩ := elems_file h3 hx
      obtain ⟨la, lcap, rfl, _, _, _⟩ := rdv_slice hlv
      have C0 := Lib.hid c0
      have C1 := Lib.hid c1
      have c0 := hn.chg.cellNever c0
      have c1 := hn.chg.cellNever c1
      have HD := Lib.hid (drop_eq hx)
      clear hx
      cases done with
      | true =>
        by_cases e : x.path = f.path
        · have HN : Hid (L ++ putLoop f true (t.drop (k + 1)) = putLoop f false t) := by
            rw [Hid, ← hP.out, HD.out, putLoop_step]; simp [e]
          have t1 : (x.path.toList == f.path.toList) = true := by rw [e]; exact beq_self_eq_true _
          clear e hP
          go_wp2_with fail
          go_quiet (fail)
          generalize hwqw5 : World.drewN wr _ = w5
          have hn5 := hwqw5 ▸ hn.never ((Chg.refl Never wr).drewN _)
          clear hwqw5 hn
          clear c0 c1 q0 q1
          have c0 := (hn5).chg.cellNever C0.out
          have c1 := (hn5).chg.cellNever C1.out
          have q0 := (hn5).chg.cellNever b0
          have q1 := (hn5).chg.cellNever b1
          go_wp2_with fail
          go_quiet (fail)
          generalize hwqw7 : World.drewN w5 _ = w7
          have hn7 := hwqw7 ▸ hn5.never ((Chg.refl Never w5).drewN _)
          clear hwqw7 hn5
          clear c0 c1 q0 q1
          have c0 := (hn7).chg.cellNever C0.out
          have c1 := (hn7).chg.cellNever C1.out
          have q0 := (hn7).chg.cellNever b0
          have q1 := (hn7).chg.cellNever b1
          go_wp2_with fail
          go_roundw
          case rel => exact ⟨k + 1, true, L, by omega, by go_num, rfl, hn7, by first | omega | (simp; omega), HN⟩
          case measure => simp [intOf] <;> omega
        · have HN : Hid ((L ++ [x]) ++ putLoop f true (t.drop (k + 1)) = putLoop f false t) := by
            rw [Hid, ← hP.out, HD.out, putLoop_step]; simp [e]
          have t1 := str_beq_false e
          clear e hP
          go_wp2_with fail
          go_quiet (fail)
          generalize hwqw5 : World.drewN wr _ = w5
          have hn5 := hwqw5 ▸ hn.never ((Chg.refl Never wr).drewN _)
          clear hwqw5 hn
          clear c0 c1 q0 q1
          have c0 := (hn5).chg.cellNever C0.out
          have c1 := (hn5).chg.cellNever C1.out
          have q0 := (hn5).chg.cellNever b0
          have q1 := (hn5).chg.cellNever b1
          go_wp2_with fail
          go_quiet (fail)
          generalize hwqw7 : World.drewN w5 _ = w7
          have hn7 := hwqw7 ▸ hn5.never ((Chg.refl Never w5).drewN _)
          clear hwqw7 hn5
          clear c0 c1 q0 q1
          have c0 := (hn7).chg.cellNever C0.out
          have c1 := (hn7).chg.cellNever C1.out
          have q0 := (hn7).chg.cellNever b0
          have q1 := (hn7).chg.cellNever b1
          have hyw8 : Dat.rd _ (fun k => Never k ∨ _ = some k) _ x := ⟨_, rfl, hps, hn7.away hlv⟩
          go_wp2_with (at_builtin; refine wpList_push (by rfl) _ _ 29 (by rfl) elemOk_file (O := Never) (l := L) (y := x) (by rfl) (by rfl) (by rfl) hn7.own hyw8 (fun _ h => h.elim) (by first | omega | (simp; omega)) ?_; intro vw8 w8 hown2 hc2 hk2; have hn8 := hn7.step1 hown2 hc2 hk2; clear hown2 hc2 hk2 hn7 hyw8; obtain ⟨vaw8, vnw8, vcw8, rfl⟩ := own_isSlice hn8.own)
          clear c0 c1 q0 q1
          have c0 := (hn8).chg.cellNever C0.out
          have c1 := (hn8).chg.cellNever C1.out
          have q0 := (hn8).chg.cellNever b0
          have q1 := (hn8).chg.cellNever b1
          go_wp2_with fail
          go_roundw
          case rel => exact ⟨k + 1, true, L ++ [x], by omega, by go_num, rfl, hn8, by first | omega | (simp; omega), HN⟩
          case measure => simp [intOf] <;> omega
      | false =>
        rcases less_tri x.path f.path with g | g | g
        · have HN : Hid ((L ++ [x]) ++ putLoop f false (t.drop (k + 1)) = putLoop f false t) := by
            have e1 : leqB f.path x.path = false := by
              rw [Bool.eq_false_iff]; intro e
              rw [leqB_true.1 e] at g; cases g
            rw [Hid, ← hP.out, HD.out, putLoop_step, e1]; simp [less_ne g]
          have a1 : Op.bytesLess f.path.toList x.path.toList = false := less_asymm g
          have a2 := str_beq_false (less_ne g).symm
          have t1 := str_beq_false (less_ne g)
          clear g hP
          go_wp2_with fail
          go_quiet (fail)
          generalize hwqw5 : World.drewN wr _ = w5
          have hn5 := hwqw5 ▸ hn.never ((Chg.refl Never wr).drewN _)
          clear hwqw5 hn
          clear c0 c1 q0 q1
          have c0 := (hn5).chg.cellNever C0.out
          have c1 := (hn5).chg.cellNever C1.out
          have q0 := (hn5).chg.cellNever b0
          have q1 := (hn5).chg.cellNever b1
          go_wp2_with fail
          go_quiet (fail)
          generalize hwqw7 : World.drewN w5 _ = w7
          have hn7 := hwqw7 ▸ hn5.never ((Chg.refl Never w5).drewN _)
          clear hwqw7 hn5
          clear c0 c1 q0 q1
          have c0 := (hn7).chg.cellNever C0.out
          have c1 := (hn7).chg.cellNever C1.out
          have q0 := (hn7).chg.cellNever b0
          have q1 := (hn7).chg.cellNever b1
          have hyw8 : Dat.rd _ (fun k => Never k ∨ _ = some k) _ x := ⟨_, rfl, hps, hn7.away hlv⟩
          go_wp2_with (at_builtin; refine wpList_push (by rfl) _ _ 29 (by rfl) elemOk_file (O := Never) (l := L) (y := x) (by rfl) (by rfl) (by rfl) hn7.own hyw8 (fun _ h => h.elim) (by first | omega | (simp; omega)) ?_; intro vw8 w8 hown2 hc2 hk2; have hn8 := hn7.step1 hown2 hc2 hk2; clear hown2 hc2 hk2 hn7 hyw8; obtain ⟨vaw8, vnw8, vcw8, rfl⟩ := own_isSlice hn8.own)
          clear c0 c1 q0 q1
          have c0 := (hn8).chg.cellNever C0.out
          have c1 := (hn8).chg.cellNever C1.out
          have q0 := (hn8).chg.cellNever b0
          have q1 := (hn8).chg.cellNever b1
          go_wp2_with fail
          go_roundw
          case rel => exact ⟨k + 1, false, L ++ [x], by omega, by go_num, rfl, hn8, by first | omega | (simp; omega), HN⟩
          case measure => simp [intOf] <;> omega
        · have HN : Hid ((L ++ [f]) ++ putLoop f true (t.drop (k + 1)) = putLoop f false t) := by
            have e1 : leqB f.path x.path = true := leqB_true.2 (by rw [g]; exact less_irrefl _)
            rw [Hid, ← hP.out, HD.out, putLoop_step, e1]; simp [g]
          have a1 : Op.bytesLess f.path.toList x.path.toList = false := by rw [g]; exact bl_irrefl _
          have a2 : (f.path.toList == x.path.toList) = true := by rw [g]; exact beq_self_eq_true _
          have t1 : (x.path.toList == f.path.toList) = true := by rw [g]; exact beq_self_eq_true _
          clear g hP
          go_wp2_with fail
          go_quiet (fail)
          generalize hwqw5 : World.drewN wr _ = w5
          have hn5 := hwqw5 ▸ hn.never ((Chg.refl Never wr).drewN _)
          clear hwqw5 hn
          clear c0 c1 q0 q1
          have c0 := (hn5).chg.cellNever C0.out
          have c1 := (hn5).chg.cellNever C1.out
          have q0 := (hn5).chg.cellNever b0
          have q1 := (hn5).chg.cellNever b1
          have hyw6 : Dat.rd _ (fun k => Never k ∨ _ = some k) _ f := ⟨_, rfl, hp, hn5.away hf⟩
          go_wp2_with (at_builtin; refine wpList_push (by rfl) _ _ 29 (by rfl) elemOk_file (O := Never) (l := L) (y := f) (by rfl) (by rfl) (by rfl) hn5.own hyw6 (fun _ h => h.elim) (by first | omega | (simp; omega)) ?_; intro vw6 w6 hown2 hc2 hk2; have hn6 := hn5.step1 hown2 hc2 hk2; clear hown2 hc2 hk2 hn5 hyw6; obtain ⟨vaw6, vnw6, vcw6, rfl⟩ := own_isSlice hn6.own)
          clear c0 c1 q0 q1
          have c0 := (hn6).chg.cellNever C0.out
          have c1 := (hn6).chg.cellNever C1.out
          have q0 := (hn6).chg.cellNever b0
          have q1 := (hn6).chg.cellNever b1
          go_wp2_with fail
          go_quiet (fail)
          generalize hwqw7 : World.drewN w6 _ = w7
          have hn7 := hwqw7 ▸ hn6.never ((Chg.refl Never w6).drewN _)
          clear hwqw7 hn6
          clear c0 c1 q0 q1
          have c0 := (hn7).chg.cellNever C0.out
          have c1 := (hn7).chg.cellNever C1.out
          have q0 := (hn7).chg.cellNever b0
          have q1 := (hn7).chg.cellNever b1
          go_wp2_with fail
          go_roundw
          case rel => exact ⟨k + 1, true, L ++ [f], by omega, by go_num, rfl, hn7, by first | omega | (simp; omega), HN⟩
          case measure => simp [intOf] <;> omega
        · have HN : Hid ((L ++ [f] ++ [x]) ++ putLoop f true (t.drop (k + 1)) = putLoop f false t) := by
            have e1 : leqB f.path x.path = true := leqB_true.2 (less_asymm g)
            rw [Hid, ← hP.out, HD.out, putLoop_step, e1]; simp [(less_ne g).symm]
          have a1 : Op.bytesLess f.path.toList x.path.toList = true := g
          have t1 := str_beq_false (less_ne g).symm
          clear g hP
          go_wp2_with fail
          go_quiet (fail)
          generalize hwqw5 : World.drewN wr _ = w5
          have hn5 := hwqw5 ▸ hn.never ((Chg.refl Never wr).drewN _)
          clear hwqw5 hn
          clear c0 c1 q0 q1
          have c0 := (hn5).chg.cellNever C0.out
          have c1 := (hn5).chg.cellNever C1.out
          have q0 := (hn5).chg.cellNever b0
          have q1 := (hn5).chg.cellNever b1
          have hyw6 : Dat.rd _ (fun k => Never k ∨ _ = some k) _ f := ⟨_, rfl, hp, hn5.away hf⟩
          go_wp2_with (at_builtin; refine wpList_push (by rfl) _ _ 29 (by rfl) elemOk_file (O := Never) (l := L) (y := f) (by rfl) (by rfl) (by rfl) hn5.own hyw6 (fun _ h => h.elim) (by first | omega | (simp; omega)) ?_; intro vw6 w6 hown2 hc2 hk2; have hn6 := hn5.step1 hown2 hc2 hk2; clear hown2 hc2 hk2 hn5 hyw6; obtain ⟨vaw6, vnw6, vcw6, rfl⟩ := own_isSlice hn6.own)
          clear c0 c1 q0 q1
          have c0 := (hn6).chg.cellNever C0.out
          have c1 := (hn6).chg.cellNever C1.out
          have q0 := (hn6).chg.cellNever b0
          have q1 := (hn6).chg.cellNever b1
          go_wp2_with fail
          go_quiet (fail)
          generalize hwqw7 : World.drewN w6 _ = w7
          have hn7 := hwqw7 ▸ hn6.never ((Chg.refl Never w6).drewN _)
          clear hwqw7 hn6
          clear c0 c1 q0 q1
          have c0 := (hn7).chg.cellNever C0.out
          have c1 := (hn7).chg.cellNever C1.out
          have q0 := (hn7).chg.cellNever b0
          have q1 := (hn7).chg.cellNever b1
          have hyw8 : Dat.rd _ (fun k => Never k ∨ _ = some k) _ x := ⟨_, rfl, hps, hn7.away hlv⟩
          go_wp2_with (at_builtin; refine wpList_push (by rfl) _ _ 29 (by rfl) elemOk_file (O := Never) (l := L ++ [f]) (y := x) (by rfl) (by rfl) (by rfl) hn7.own hyw8 (fun _ h => h.elim) (by first | omega | (simp; omega)) ?_; intro vw8 w8 hown2 hc2 hk2; have hn8 := hn7.step1 hown2 hc2 hk2; clear hown2 hc2 hk2 hn7 hyw8; obtain ⟨vaw8, vnw8, vcw8, rfl⟩ := own_isSlice hn8.own)
          clear c0 c1 q0 q1
          have c0 := (hn8).chg.cellNever C0.out
          have c1 := (hn8).chg.cellNever C1.out
          have q0 := (hn8).chg.cellNever b0
          have q1 := (hn8).chg.cellNever b1
          go_wp2_with fail
          go_roundw
          case rel => exact ⟨k + 1, true, L ++ [f] ++ [x], by omega, by go_num, rfl, hn8, by first | omega | (simp; omega), HN⟩
          case measure => simp [intOf] <;> omega
    · have hP2 := hP.out
      rw [List.drop_eq_nil_of_le (by omega), putLoop] at hP2
      have HP := Lib.hid hP2
      clear hP hP2
      cases done with
      | true =>
        have HE : Hid (L = putLoop f false t) := by rw [Hid, ← HP.out]; simp
        go_wp2_with fail
        go_ret
        exact ⟨_, rfl, hA.trans hn.chg, by rw [← HE.out]; exact hn.own.rdv.sub (fun _ _ h => h.elim)⟩
      | false =>
        have HE : Hid (L ++ [f] = putLoop f false t) := by rw [Hid, ← HP.out]; simp
        have hyf : Dat.rd wr (fun k => Never k ∨ u5.ownBlock = some k) [.string f.path, .slice fa f.lines.length fcap] f := ⟨_, rfl, hp, hn.away hf⟩
        go_wp2_with (at_builtin; refine wpList_push (by rfl) _ _ 29 (by rfl) elemOk_file (O := Never) (l := L) (y := f) (by rfl) (by rfl) (by rfl) hn.own hyf (fun _ h => h.elim) (by omega) ?_; intro v' w2 hown2 hc2 hk2; have hn2 := hn.step1 hown2 hc2 hk2; clear hown2 hc2 hk2 hn hyf; obtain ⟨va, vn, vc, rfl⟩ := own_isSlice hn2.own)
        go_wp2_with fail
        go_ret
        exact ⟨_, rfl, hA.trans hn2.chg, by rw [← HE.out]; exact hn2.own.rdv.sub (fun _ _ h => h.elim)⟩
end Go.Proofs.YtmjpfoeaobdaeaaGreatDoor
namespace Go.Proofs.YtmjpfoeaobdaeaaGreatDoor
open Go.RowKit

theorem own_made {α : Type} [Dat α] (w : World) (e : TypeId) : Own e (w.alloc (.cells #[] e)) (Old w.heap.size) (.slice (some ⟨w.heap.size, 0, none⟩) 0 0) ([] : List α) :=
  ⟨[], World.ownsRow_made w #[] 0 (Nat.zero_le _) (by unfold maxLen; omega) (by simp), fun k hk ho => by
    simp only [Value.ownBlock, Option.some.injEq] at hk
    subst hk
    unfold Old at ho
    omega, fun i x hi => by simp at hi⟩

set_option maxHeartbeats 800000 in
set_option maxRecDepth 100000 in
theorem clone_str (O : Nat → Prop) (l : List ByteArray) (v : Value) (w : World) (h : Rdv w O v l) (hl : l.length ≤ 1000000) :
    Calls Tryz.prog 101 #[v] w fun e w' => ∃ r, e = .returned r ∧ Chg Never w w' ∧ Own 9 w' (Old w.heap.size) r l := by
  obtain ⟨a, cap, rfl, h1, h2, h3⟩ := rdv_slice h
  unfold maxLen at h2
  cases a with
  | none =>
    have hn : l = [] := by
      cases l with
      | nil => rfl
      | cons x l =>
        obtain ⟨b, off, es, ha, _⟩ := h3 0 x rfl
        cases ha
    subst hn
    have he : ∀ wx, (binOp .eql 25 (.slice none 0 cap) (.slice none 0 0)).run Tryz.prog wx = .ok (.bool true) wx := fun wx => Lib.run_eql_slice_nil wx 25 9 none 0 cap 0 0 Tryz.underlying25
    go_enter Tryz.func101, Tryz.ntmps101
    go_wp2_with fail
    go_ret
    exact ⟨_, rfl, Chg.refl _ _, own_nil _ _ _⟩
  | some a =>
    have hm := own_made (α := ByteArray) w 9
    have hA : Chg Never w (w.alloc (.cells #[] 9)) := (Chg.refl Never w).alloc _
    have hr := (h.sub (O' := Never) (fun _ _ h => h.elim)).never hA
    have hO : ∀ k, Old w.heap.size k → k < (w.alloc (.cells #[] 9)).heap.size := by
      intro k hk
      unfold Old at hk
      simp
      omega
    have hle : ([] : List ByteArray).length + l.length ≤ 1000000000 := by simp; omega
    clear h3 h
    have he : ∀ wx, (binOp .eql 25 (.slice (some a) l.length cap) (.slice none 0 0)).run Tryz.prog wx = .ok (.bool false) wx := fun wx => Lib.run_eql_slice_nil wx 25 9 (some a) l.length cap 0 0 Tryz.underlying25
    go_enter Tryz.func101, Tryz.ntmps101
    go_wp2_with (at_builtin; refine wpList_many (by rfl) _ _ 25 (by rfl) elemOk_str (O := Old w.heap.size) (by rfl) (by rfl) hm hr (rd_str_any _ _ _) hO hle ?_; intro v' w5 hown2 hc2)
    have hc3 := own_step hA hm hc2
    clear hm hr hc2
    go_wp2_with fail
    go_ret
    exact ⟨_, rfl, hc3, hown2⟩
end Go.Proofs.YtmjpfoeaobdaeaaGreatDoor
namespace Go.Proofs.YtmjpfoeaobdaeaaGreatDoor
open Go.RowKit

theorem take_snoc {α : Type} {l : List α} {k : Nat} {x : α} (hx : l[k]? = some x) : l.take (k + 1) = l.take k ++ [x] := by rw [List.take_add_one, hx]; rfl
set_option maxHeartbeats 2000000 in
set_option maxRecDepth 100000 in
theorem tree_copy_any (t : List File) (v : Value) (w : World) (h : Rdv w Never v t) (hl : t.length ≤ 1000000) (hll : ∀ f ∈ t, f.lines.length ≤ 1000000) :
    Calls Tryz.prog 73 #[v] w fun e w' => ∃ r, e = .returned r ∧ Chg Never w w' ∧ Own 70 w' (Old w.heap.size) r t := by
  obtain ⟨a, cap, rfl, h1, h2, h3⟩ := rdv_slice h
  unfold maxLen at h2
  go_enter Tryz.func73, Tryz.ntmps73
  go_wp2_with fail
  go_loopw [3, 8] (fun o i wr => ∃ k : Nat, k ≤ t.length ∧ i = .int .i64 k ∧ Chg Never w wr ∧ Own 70 wr (Old w.heap.size) o (t.take k)) (fun _ i _ => t.length - (intOf i).toNat)
  case atStart => exact ⟨0, Nat.zero_le _, rfl, Chg.refl _ _, own_nil _ _ _⟩
  case round =>
    obtain ⟨k, hk, rfl, hc, hown⟩ := hrel
    by_cases hlt : k < t.length
    · obtain ⟨x, hx⟩ : ∃ x, t[k]? = some x := ⟨t[k], by simp [hlt]⟩
      obtain ⟨b, off, lv, rfl, _, _, c0, c1, hps, hlv⟩ := elems_file h3 hx
      obtain ⟨la, lcap, rfl, _, _, _⟩ := rdv_slice hlv
      have hxl := hll x (List.mem_of_getElem? hx)
      have c0 := hc.cellNever c0
      have c1 := hc.cellNever c1
      have HT := Lib.hid (take_snoc hx)
      have htl : (t.take k).length ≤ 1000000000 := Nat.le_trans (List.length_take_le _ _) (by omega)
      have hsz := hc.size
      have holt := own_block_lt hown
      have hA : Chg Never wr (wr.alloc (.cells #[.string x.path, .slice la x.lines.length lcap] 70)) := (Chg.refl Never wr).alloc _
      have hBX := Blk2.new wr 70 (.string x.path) (.slice la x.lines.length lcap)
      have hownA := hown.keep (O'' := fun j => Old w.heap.size j ∨ j = wr.heap.size) hA (fun _ _ hh => hh.elim) (by rintro j hj (hh | rfl); exact hh; exact absurd hj (Nat.lt_irrefl _))
      have hlvA := (hlv.never hc).never hA
      have hcA := hc.trans hA
      have hBlt := hBX.lt
      obtain ⟨b0, b1⟩ := hBX.cell
      clear hx h3 h hown hlv
      go_wp2_with fail
      generalize wr.alloc (.cells #[.string x.path, .slice la x.lines.length lcap] 70) = w3 at hBX hownA hlvA hcA hBlt b0 b1 hA ⊢
      generalize hBe : wr.heap.size = B at hBX hownA hBlt b0 b1 hsz holt ⊢
      clear hc hA hBe
      refine (clone_str Never x.lines _ _ hlvA hxl).mono ?_
      rintro e w4 ⟨r4, rfl, hc4, hown4⟩
      obtain ⟨ra, rn, rc, rfl⟩ := own_isSlice hown4
      have hB4 := hBX.keep hc4 (fun h => h)
      have b3 := hB4.free
      have hB5 := hB4.set1 (.slice ra rn rc)
      obtain ⟨b0, b1⟩ := hB4.cell
      obtain ⟨k0, k1⟩ := hB5.cell
      have hS : Chg (fun j => j = B) w4 (w4.setCell ⟨B, 1, none⟩ (.slice ra rn rc)) := (Chg.refl (fun j => j = B) w4).setCell (p := ⟨B, 1, none⟩) (.inr rfl) _
      have hown5 := (hownA.never hc4).keep (O'' := Old w.heap.size) hS (fun j _ hh => .inr hh) (fun j _ hh => .inl hh)
      have hr := (hown4.keep (O'' := Old w3.heap.size) hS (fun j _ hh => by subst hh; exact hBlt) (fun _ _ hh => hh)).rdv
      have hc5 := (hcA.trans hc4).setCell (p := ⟨B, 1, none⟩) (.inl hsz) (.slice ra rn rc)
      have hszw := hcA.size
      have hy : Dat.rd (w4.setCell ⟨B, 1, none⟩ (.slice ra rn rc)) (fun j => Old w.heap.size j ∨ u3.ownBlock = some j) [.string x.path, .slice ra rn rc] x := ⟨_, rfl, hps, hr.sub (fun j _ hh => by
        rcases hh with hh | hh
        · exact Nat.lt_of_lt_of_le hh hszw
        · exact Nat.lt_trans (holt j hh) hBlt)⟩
      clear hr hS hB4 hBX hown4 hc4 hownA hcA hlvA hB5
      go_wp2_with (at_builtin; refine wpList_push (by rfl) _ _ 29 (by rfl) elemOk_file (O := Old w.heap.size) (l := t.take k) (y := x) (by rfl) (by rfl) (by simp) hown5 hy (old_lt hc5) htl ?_; intro v' w6 hown6 hc6 _)
      have hc7 := own_step hc5 hown5 hc6
      clear hc6 hown5 hy
      go_wp2_with fail
      go_roundw
      case rel => exact ⟨k + 1, by omega, by go_num, hc7, by rw [HT.out]; exact hown6⟩
      case measure => simp [intOf] <;> omega
    · rw [List.take_of_length_le (by omega)] at hown
      go_wp2_with fail
      go_ret
      exact ⟨_, rfl, hc, hown⟩
end Go.Proofs.YtmjpfoeaobdaeaaGreatDoor
namespace Go.Proofs.YtmjpfoeaobdaeaaGreatDoor
open Go.RowKit

set_option maxRecDepth 100000 in
theorem growf_nil (n : Nat) (w : World) (hn : n ≤ 1000000) :
    Calls Tryz.prog 110 #[.slice none 0 0, .int .i64 n] w fun e w' => ∃ r, e = .returned r ∧ OwnN 70 w w' r ([] : List File) := by
  rcases Nat.eq_zero_or_pos n with h0 | hpos
  · subst h0
    go_enter Tryz.func110, Tryz.ntmps110
    go_wp2_with fail
    go_ret
    exact ⟨_, rfl, ownN_nil _ (Chg.refl _ _)⟩
  · obtain ⟨i0, hi0, hz0, hs0, hb0⟩ := info_parts (show (Tryz.prog.info? 70).map (fun i => (i.zero, i.size, i.bytes)) = some (some (.agg #[.string ⟨#[]⟩, .slice none 0 0]), 2, 40) by kernel_rfl)
    have hold : (Builtin.firstCells i0.size 0 (.slice none 0 0)).run Tryz.prog w.drew = .ok ([] : List Value).toArray w.drew := run_firstCells_none w.drew i0.size 0 0 0
    have hrz : ∀ ty, (Builtin.append_ #[29, 3] ty #[.slice none 0 0, .int .i64 (n : Int)]).run Tryz.prog w = .ok (.slice (some ⟨w.heap.size, 0, none⟩) n (grownCap w n 0 70))
        (w.drew.alloc (.cells (([] : List Value).toArray ++ Builtin.zeroCells (Value.agg #[.string ⟨#[]⟩, .slice none 0 0]).cells n ++ Builtin.zeroCells (Value.agg #[.string ⟨#[]⟩, .slice none 0 0]).cells (grownCap w n 0 70 - n)) 70)) := fun ty => by
      have h := Lib.run_append_grow_zeros w 29 3 ty 70 i0 (Value.agg #[.string ⟨#[]⟩, .slice none 0 0]) .i64 .i64 Tryz.underlying29 Tryz.underlying3 hi0 hz0 none 0 0 [] hold n hpos (by omega) (by omega) (by omega) (by rw [hb0]; omega)
        (growslice_fits (by omega) (by rw [hb0]; omega))
      rw [Nat.zero_add] at h
      exact h
    have hGn : n ≤ grownCap w n 0 70 := grownCap_ge w _ _ _
    have hGm : grownCap w n 0 70 ≤ maxLen := grownCap_le_maxLen w n 0 70 (by unfold maxLen; omega)
    generalize grownCap w n 0 70 = G at hrz hGn hGm
    have hG63 : G ≤ 9223372036854775807 := by unfold maxLen at hGm; omega
    obtain ⟨cur, hcur⟩ : ∃ cur, cur = ([] : List Value).toArray ++ Builtin.zeroCells (Value.agg #[.string ⟨#[]⟩, .slice none 0 0]).cells n ++ Builtin.zeroCells (Value.agg #[.string ⟨#[]⟩, .slice none 0 0]).cells (G - n) := ⟨_, rfl⟩
    rw [← hcur] at hrz
    have hcs : cur.size = G * 2 := by rw [hcur]; simp [Builtin.zeroCells, Value.cells]; omega
    clear hcur
    have hmade : (w.drew.alloc (.cells cur 70)).ownsRow 0 70 2 (.slice (some ⟨w.heap.size, 0, none⟩) 0 G) 0 [] :=
      World.ownsRow_made w.drew _ G (Nat.zero_le _) hGm hcs
    have hcw : Chg Never w (w.drew.alloc (.cells cur 70)) := (Chg.refl Never w).drew.alloc _
    clear hcs
    have HM := Lib.hid hmade
    have HC := Lib.hid hcw
    clear hmade hcw hold hi0 hz0 hs0 hb0 hGm
    go_enter Tryz.func110, Tryz.ntmps110
    go_wp2_with (at_builtin; refine Lib.wpList_append_run _ rfl _ _ _ _ rfl _ _ rfl rfl _ _ (hrz _) ?_)
    all_goals
      go_ret
      exact ⟨.slice (some ⟨w.heap.size, 0, none⟩) 0 G, rfl, ⟨[], HM.out, fun _ _ h => h.elim, fun i x hi => by simp at hi⟩, fun k hk => by
        simp only [Value.ownBlock, Option.some.injEq] at hk
        omega, HC.out⟩

def totalF (l : List (List File)) (k : Nat) : Nat := (l.take k).flatten.length
theorem flattenF {l : List (List File)} {k : Nat} {x : List File} (hx : l[k]? = some x) : (l.take (k + 1)).flatten = (l.take k).flatten ++ x := by
  rw [List.take_add_one, hx]; simp
theorem flattenF_le (l : List (List File)) (k : Nat) : (l.take k).flatten.length ≤ l.flatten.length := by
  have h : ((l.take k) ++ (l.drop k)).flatten.length = l.flatten.length := by rw [List.take_append_drop]
  rw [List.flatten_append, List.length_append] at h
  omega
set_option maxHeartbeats 800000 in
set_option maxRecDepth 100000 in
theorem concatf_any (ls : List (List File)) (v : Value) (w : World) (h : Rdv w Never v ls) (hb : ls.flatten.length ≤ 1000000) :
    Calls Tryz.prog 74 #[v] w fun e w' => ∃ r, e = .returned r ∧ OwnN 70 w w' r ls.flatten := by
  obtain ⟨a, cap, rfl, h1, h2, h3⟩ := rdv_slice h
  unfold maxLen at h2
  go_enter Tryz.func74, Tryz.ntmps74
  go_wp2_with fail
  go_loop [3, 5, 11] (fun sz _ i => ∃ k : Nat, k ≤ ls.length ∧ i = .int .i64 k ∧ sz = .int .i64 (totalF ls k)) (fun _ _ i => ls.length - (intOf i).toNat)
  case atStart => exact ⟨0, Nat.zero_le _, rfl, rfl⟩
  case round =>
    obtain ⟨k, hk, rfl, rfl⟩ := hrel
    by_cases hlt : k < ls.length
    · obtain ⟨x, hx⟩ : ∃ x, ls[k]? = some x := ⟨ls[k], by simp [hlt]⟩
      obtain ⟨b, off, sv, rfl, _, _, c0, hsv⟩ := elems_list h3 hx
      obtain ⟨xa, xcap, rfl, _, _, _⟩ := rdv_slice hsv
      have HT : Hid (totalF ls (k + 1) = totalF ls k + x.length) := by rw [Hid, totalF, flattenF hx, List.length_append]; rfl
      have hle : totalF ls k + x.length ≤ 1000000 := by
        have h1 : totalF ls (k + 1) ≤ ls.flatten.length := flattenF_le ls (k + 1)
        rw [HT.out] at h1
        omega
      clear hx h3 h hsv
      go_wp2_with fail
      go_round
      case rel => exact ⟨k + 1, by omega, by go_num, by rw [HT.out]; go_num⟩
      case measure => simp [intOf] <;> omega
    · obtain rfl : k = ls.length := by omega
      have hb' : totalF ls ls.length ≤ 1000000 := Nat.le_trans (flattenF_le ls _) hb
      go_wp2_with fail
      refine (growf_nil (totalF ls ls.length) _ hb').mono ?_
      rintro e w1 ⟨r1, rfl, hn1⟩
      go_wp2_with fail
      go_loopw [6, 8, 27] (fun o _ i wr => ∃ k : Nat, k ≤ ls.length ∧ i = .int .i64 k ∧ OwnN 70 w wr o (ls.take k).flatten) (fun _ _ i _ => ls.length - (intOf i).toNat)
      case atStart => exact ⟨0, Nat.zero_le _, rfl, hn1⟩
      case round =>
        clear hn1
        obtain ⟨k, hk, rfl, hn⟩ := hrel
        by_cases hlt : k < ls.length
        · obtain ⟨x, hx⟩ : ∃ x, ls[k]? = some x := ⟨ls[k], by simp [hlt]⟩
          obtain ⟨b, off, sv, rfl, _, _, c0, hsv⟩ := elems_list h3 hx
          obtain ⟨xa, xcap, rfl, _, _, _⟩ := rdv_slice hsv
          have c0 := hn.chg.cellNever c0
          have HF := Lib.hid (flattenF hx)
          have hle : (ls.take k).flatten.length + x.length ≤ 1000000000 := by
            have := flattenF_le ls (k + 1)
            rw [HF.out, List.length_append] at this
            omega
          clear hx h3 h
          go_wp2_with (at_builtin; refine wpList_many2 (by rfl) _ _ 29 (by rfl) elemOk_file (O := Never) (by rfl) (by rfl) hn.own (hn.away hsv) (fun _ h => h.elim) hle ?_; intro v' w5 hown2 hc2 hk2)
          have hn2 := hn.step hown2 hc2 hk2
          clear hc2 hown2 hk2 hn
          go_wp2_with fail
          go_roundw
          case rel => exact ⟨k + 1, by omega, by go_num, by rw [HF.out]; exact hn2⟩
          case measure => simp [intOf] <;> omega
        · obtain rfl : k = ls.length := by omega
          rw [List.take_length] at hn
          go_wp2_with fail
          go_ret
          exact ⟨_, rfl, hn⟩
end Go.Proofs.YtmjpfoeaobdaeaaGreatDoor
namespace Go.Proofs.YtmjpfoeaobdaeaaGreatDoor
open Go.RowKit

def atFault (t : List File) (p : ByteArray) : Int := if (treeFault t).2 = 0 then pathFault p else (treeFault t).2
def atPos (t : List File) (p : ByteArray) : Int := if atFault t p = 0 then (posOf t p : Int) else 0
def atIs (t : List File) (p : ByteArray) : Bool := if atFault t p = 0 then isAt t p else false
def getFault (t : List File) (p : ByteArray) : Int := if atFault t p = 0 then (if isAt t p = true then 0 else 4) else atFault t p
def linesAt (t : List File) (p : ByteArray) : List ByteArray := ((t[posOf t p]?).map (·.lines)).getD []
def getR (t : List File) (p : ByteArray) : List ByteArray := if getFault t p = 0 then linesAt t p else []
def dropR (t : List File) (p : ByteArray) : List File := if getFault t p = 0 then dropAt t (posOf t p) else []
def putFault (t : List File) (f : File) : Int :=
  if atFault t f.path = 0 then (if linesFault f.lines = 0 then (if isAt t f.path = false ∧ t.length = 8 then 3 else 0) else linesFault f.lines) else atFault t f.path
def putR (t : List File) (f : File) : List File := if putFault t f = 0 then putAt t f else []
theorem isAt_get {t : List File} {p : ByteArray} (h : isAt t p = true) : ∃ x, t[posOf t p]? = some x ∧ x.path = p := by
  unfold isAt at h
  cases hx : t[posOf t p]? with
  | none => rw [hx] at h; cases h
  | some x =>
    rw [hx] at h
    simp only [Option.any_some, decide_eq_true_eq] at h
    exact ⟨x, rfl, h⟩

set_option maxHeartbeats 1000000 in
set_option maxRecDepth 100000 in
theorem tree_at_any (t : List File) (p : ByteArray) (v : Value) (w : World) (h : Rdv w Never v t) (m : Int) (hm : w.cell? ⟨0, 0, none⟩ = some (.int .i64 m)) :
    Calls Tryz.prog 71 #[v, .string p] w fun e w' => e = .returned (.tuple #[.int .i64 (atPos t p), .bool (atIs t p), errV (atFault t p)]) ∧ Chg Never w w' := by
  by_cases z : (treeFault t).2 = 0
  · have Z := Lib.hid z
    obtain ⟨hl8, _, hs, _⟩ := treeFault_zero z
    have HS := Lib.hid hs
    by_cases zp : pathFault p = 0
    · have HA : Hid (atFault t p = 0) := by unfold Hid atFault; rw [if_pos z, zp]
      have ZP := Lib.hid zp
      clear z zp hs
      go_enter Tryz.func71, Tryz.ntmps71
      go_wp2_with fail
      refine (tree_check_any t _ _ h m hm).mono ?_
      rintro e w1 ⟨rfl, hw⟩
      rw [Z.out, errV_zero]
      go_wp2_with fail
      refine (line_path_any p _ m (hw.cellNever hm)).mono ?_
      rintro e w2 ⟨rfl, hc2⟩
      have hw := hw.trans hc2
      clear hc2
      rw [ZP.out, errV_zero]
      go_wp2_with fail
      refine (treefind_any t p _ _ (h.never hw) HS.out (by omega)).mono ?_
      rintro e w3 ⟨rfl, hc3⟩
      have hw := hw.trans hc3
      clear hc3
      go_wp2_with fail
      go_ret3
      exact ⟨by rw [show atPos t p = posOf t p from if_pos HA.out, show atIs t p = isAt t p from if_pos HA.out, HA.out]; rfl, hw⟩
    · have HA : Hid (atFault t p = pathFault p) := if_pos z
      have ZP := Lib.hid zp
      clear z hs
      go_enter Tryz.func71, Tryz.ntmps71
      go_wp2_with fail
      refine (tree_check_any t _ _ h m hm).mono ?_
      rintro e w1 ⟨rfl, hw⟩
      rw [Z.out, errV_zero]
      go_wp2_with fail
      refine (line_path_any p _ m (hw.cellNever hm)).mono ?_
      rintro e w2 ⟨rfl, hc2⟩
      have hw := hw.trans hc2
      clear hc2
      rw [errV_pos zp]
      clear zp
      go_wp2_with fail
      go_ret3
      exact ⟨by rw [show atPos t p = 0 from if_neg (by rw [HA.out]; exact ZP.out), show atIs t p = false from if_neg (by rw [HA.out]; exact ZP.out), HA.out, errV_pos ZP.out]; rfl, hw⟩
  · have HA : Hid (atFault t p = (treeFault t).2) := if_neg z
    have Z := Lib.hid z
    go_enter Tryz.func71, Tryz.ntmps71
    go_wp2_with fail
    refine (tree_check_any t _ _ h m hm).mono ?_
    rintro e w1 ⟨rfl, hw⟩
    rw [errV_pos z]
    clear z
    go_wp2_with fail
    go_ret3
    exact ⟨by rw [show atPos t p = 0 from if_neg (by rw [HA.out]; exact Z.out), show atIs t p = false from if_neg (by rw [HA.out]; exact Z.out), HA.out, errV_pos Z.out]; rfl, hw⟩

end Go.Proofs.YtmjpfoeaobdaeaaGreatDoor
namespace Go.Proofs.YtmjpfoeaobdaeaaGreatDoor
open Go.RowKit

theorem atFault_zero {t : List File} {p : ByteArray} (h : atFault t p = 0) : (treeFault t).2 = 0 ∧ pathFault p = 0 := by
  unfold atFault at h
  by_cases e : (treeFault t).2 = 0
  · rw [if_pos e] at h; exact ⟨e, h⟩
  · rw [if_neg e] at h; exact absurd h e
theorem tree_lines {t : List File} (h : (treeFault t).2 = 0) : ∀ f ∈ t, f.lines.length ≤ 60 := fun f hf => linesFault_len (fileFault_zero ((treeFault_zero h).2.1 f hf)).2
set_option maxHeartbeats 2000000 in
set_option maxRecDepth 100000 in
theorem tree_drop_any (t : List File) (p : ByteArray) (v : Value) (w : World) (h : Rdv w Never v t) (m : Int) (hm : w.cell? ⟨0, 0, none⟩ = some (.int .i64 m)) :
    Calls Tryz.prog 40 #[v, .string p] w fun e w' => ∃ r, e = .returned (.tuple #[r, errV (getFault t p)]) ∧ Chg Never w w' ∧ Rdv w' (Old w.heap.size) r (dropR t p) := by
  obtain ⟨a, cap, rfl, h1, h2, _⟩ := rdv_slice h
  unfold maxLen at h2
  by_cases z : atFault t p = 0
  · have Z := Lib.hid z
    by_cases zi : isAt t p = true
    · have ZI := Lib.hid zi
      have HF : Hid (getFault t p = 0) := by unfold Hid getFault; rw [if_pos z, if_pos zi]
      have HR : Hid (dropR t p = dropAt t (posOf t p)) := if_pos HF.out
      obtain ⟨x, hx, _⟩ := isAt_get zi
      have hlt := (List.getElem?_eq_some_iff.1 hx).1
      have hz8 := (atFault_zero z).1
      have HTL := Lib.hid (tree_lines hz8)
      have hl8 := (treeFault_zero hz8).1
      clear z zi hx hz8
      go_enter Tryz.func40, Tryz.ntmps40
      go_wp2_with fail
      refine (tree_at_any t p _ _ h m hm).mono ?_
      rintro e w1 ⟨rfl, hw⟩
      rw [show atPos t p = posOf t p from if_pos Z.out, show atIs t p = isAt t p from if_pos Z.out, Z.out, ZI.out, errV_zero]
      generalize posOf t p = k at hlt HR ⊢
      obtain ⟨sb1, y0, y1, hrunH, hsub1⟩ := slice_gen (P := Tryz.prog) (t := 29) (by kernel_rfl) size_file h 0 k (Nat.zero_le _) (by omega)
      have hrunH := fun (wx : World) => hrunH k wx rfl rfl
      clear y0 y1
      rw [Nat.sub_zero, Nat.sub_zero] at hrunH hsub1
      rw [List.drop_zero] at hsub1
      obtain ⟨sb2, y0, hrunL, y1, hsub2⟩ := slice_gen (P := Tryz.prog) (t := 29) (by kernel_rfl) size_file h (k + 1) t.length (by omega) (Nat.le_refl _)
      have hrunL := fun (wx : World) => hrunL ((k : Int) + 1) wx (by push_cast; rfl) rfl
      clear y0 y1
      rw [List.take_of_length_le (by rw [List.length_drop]; omega)] at hsub2
      have e1 : (t.take k).length = k := by rw [List.length_take]; omega
      have e2 : (t.drop (k + 1)).length = t.length - (k + 1) := List.length_drop
      have E1 := Lib.hid e1
      have E2 := Lib.hid e2
      have zw : IntKind.i64.wrap ((k : Int) + 1) = (k : Int) + 1 := IntWalk.i64_in _ (by omega)
      clear e1 e2
      go_wp2_with fail
      refine wp_region_held_drew (S := fun w' => Chg Never w w') (by kernel_rfl) hw.drew (fun hH => ?_)
      refine' tk 0 ?_
      refine' tk 1 ?_
      refine' tk 2 ?_
      refine' tk 3 ?_
      refine' tk 4 ?_
      refine' tk 5 ?_
      refine' tk 6 ?_
      refine wpAnyH_ready (rs := [7]) (by kernel_rfl) (by simp) ?_
      refine AllReadyH.cons rfl (fun K hK => ?_) AllReadyH.nil
      go_simp
      refine hK.out _ _ (hH.alloc _) (fun hHn => ?_)
      clear hK K hH
      have hH := hHn
      clear hHn
      try simp only [Act.put, List.setIfInBounds_toArray, List.set_cons_zero, List.set_cons_succ]
      have HFL : Hid ([t.take k, t.drop (k + 1)].flatten = dropAt t k) := by unfold Hid dropAt; simp
      have hbl : [t.take k, t.drop (k + 1)].flatten.length ≤ 1000000 := by rw [HFL.out]; unfold dropAt; rw [List.length_append, E1.out, E2.out]; omega
      have hda : (dropAt t k).length ≤ 1000000 := by rw [← HFL.out]; exact hbl
      have hdl : ∀ f ∈ dropAt t k, f.lines.length ≤ 1000000 := fun f hf => by
        have hm : f ∈ t := by
          unfold dropAt at hf
          rcases List.mem_append.1 hf with hf | hf
          · exact List.mem_of_mem_take hf
          · exact List.mem_of_mem_drop hf
        have := HTL.out f hm
        omega
      have HDL := Lib.hid hdl
      clear hdl
      refine wpAnyH_ready (rs := [8]) (by kernel_rfl) (by simp) ?_
      refine AllReadyH.cons rfl (fun K hK => ?_) AllReadyH.nil
      go_simp
      (go_at_call 74; refine (concatf_any [t.take k, t.drop (k + 1)] _ _ (rdv_lit (cs := [.slice sb1 k cap, .slice sb2 (t.length - (k + 1)) (cap - (k + 1))]) (by exact heap_alloc_new w1 _) rfl (by simp) ⟨(hsub1.never hH), (hsub2.never hH), trivial⟩) hbl).mono ?_; rintro e wq ⟨rq, rfl, hnq⟩; rw [HFL.out] at hnq; have hrq := hnq.own.rdv.sub (O' := Never) (fun _ _ h => h.elim); obtain ⟨qa, qn, qc, rfl⟩ := own_isSlice hnq.own; have hS2 := hH.trans hnq.chg; clear hH hnq)
      try go_wp2_with fail
      refine hK.out _ _ ?_ (fun hH => ?_)
      · assumption
      clear hK K
      try simp only [Act.put, List.setIfInBounds_toArray, List.set_cons_zero, List.set_cons_succ]
      refine wpAnyH_ready (rs := [9]) (by kernel_rfl) (by simp) ?_
      refine AllReadyH.cons rfl (fun K hK => ?_) AllReadyH.nil
      go_simp
      (go_at_call 73; refine (tree_copy_any (dropAt t k) _ _ hrq hda HDL.out).mono ?_; rintro e wq2 ⟨rq2, rfl, hcq2, hown2⟩; have hsz2 := hH.size; have hr2 := hown2.rdv.sub (O' := Old w.heap.size) (fun j _ hj => Nat.lt_of_lt_of_le hj hsz2); obtain ⟨ra, rn, rc, rfl⟩ := own_isSlice hown2; have hS3 := hH.trans hcq2; clear hH hcq2 hown2)
      try go_wp2_with fail
      refine hK.out _ _ ?_ (fun hH => ?_)
      · assumption
      clear hK K
      try simp only [Act.put, List.setIfInBounds_toArray, List.set_cons_zero, List.set_cons_succ]
      refine' tk 10 ?_
      refine' tk 11 ?_
      refine wpAnyH_done (by kernel_rfl) ?_ _
      go_wp2_with fail
      go_ret2
      exact ⟨_, by rw [HF.out]; rfl, hH, by rw [HR.out]; exact hr2⟩
    · have ZI : Hid (isAt t p = false) := Bool.eq_false_iff.2 zi
      have HF : Hid (getFault t p = 4) := by unfold Hid getFault; rw [if_pos z, if_neg zi]
      have HR : Hid (dropR t p = []) := if_neg (by rw [HF.out]; decide)
      clear z zi
      go_enter Tryz.func40, Tryz.ntmps40
      go_wp2_with fail
      refine (tree_at_any t p _ _ h m hm).mono ?_
      rintro e w1 ⟨rfl, hw⟩
      rw [show atPos t p = posOf t p from if_pos Z.out, show atIs t p = isAt t p from if_pos Z.out, Z.out, ZI.out, errV_zero]
      go_wp2_with fail
      go_ret2
      exact ⟨_, by rw [HF.out]; rfl, hw, by rw [HR.out]; exact rdv_nil _ _⟩
  · have Z := Lib.hid z
    have HF : Hid (getFault t p = atFault t p) := if_neg z
    have HR : Hid (dropR t p = []) := if_neg (by rw [HF.out]; exact z)
    go_enter Tryz.func40, Tryz.ntmps40
    go_wp2_with fail
    refine (tree_at_any t p _ _ h m hm).mono ?_
    rintro e w1 ⟨rfl, hw⟩
    rw [show atPos t p = 0 from if_neg Z.out, show atIs t p = false from if_neg Z.out, errV_pos Z.out]
    clear z
    go_wp2_with fail
    go_ret2
    exact ⟨_, by rw [HF.out, errV_pos Z.out]; rfl, hw, by rw [HR.out]; exact rdv_nil _ _⟩
end Go.Proofs.YtmjpfoeaobdaeaaGreatDoor
