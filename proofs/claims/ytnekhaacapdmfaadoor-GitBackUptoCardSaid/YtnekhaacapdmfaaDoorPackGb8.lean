/-
  GitBack holds, tied to the program's text: for all arguments of bulk at most 1048576 the law answers true, and its arguments read as before.
-/
import Derived.Test.YtnekhaacapdmfaaDoorPackGb3
import Derived.Test.YtnekhaacapdmfaaDoorPackGb7
import Derived.Test.YtnekhaacapdmfaaDoorPackGb5
import Derived.WalkSpells
import Derived.Test.YtnekhaacapdmfaaDoorPackGb6
import Derived.Deep.RegionHeld3
import Derived.Deep.Cut
import Derived.Deep.CutRange
import Derived.Test.YtnekhaacapdmfaaDoorPackGb1
namespace Go.Proofs.YtnekhaacapdmfaaDoor

theorem spanOf_lt {s : List UInt8} {a : Int} {x : Nat} (h : spanOf s = some (a, x)) : x < 1000 := by
  unfold spanOf at h
  cases hc : cutSub [44] s with
  | none => rw [hc] at h; cases h
  | some p =>
    obtain ⟨u, v⟩ := p
    rw [hc] at h
    simp only at h
    cases hu : numOf u with
    | none => rw [hu] at h; cases h
    | some y =>
      cases hv : numOf v with
      | none => rw [hu, hv] at h; cases h
      | some z =>
        have := numOf_lt hv
        rw [hu, hv] at h
        simp only at h
        split at h
        · split at h
          · cases h
          · injection h with h; injection h with _ h; omega
        · injection h with h; injection h with _ h; omega
theorem headOf_lt {s : List UInt8} {a b : Int} {x y : Nat} (h : headOf s = some (a, x, b, y)) : x < 1000 ∧ y < 1000 := by
  unfold headOf at h
  cases h1 : dropPre atAt s with
  | none => rw [h1] at h; cases h
  | some r =>
    rw [h1] at h
    simp only at h
    cases h2 : dropSuf endAt r with
    | none => rw [h2] at h; cases h
    | some m =>
      rw [h2] at h
      simp only at h
      cases h3 : cutSub [32, 43] m with
      | none => rw [h3] at h; cases h
      | some p =>
        obtain ⟨u, v⟩ := p
        rw [h3] at h
        simp only at h
        cases h4 : spanOf u with
        | none => rw [h4] at h; cases h
        | some p =>
          obtain ⟨a', x'⟩ := p
          rw [h4] at h
          simp only at h
          cases h5 : spanOf v with
          | none => rw [h5] at h; cases h
          | some p =>
            obtain ⟨b', y'⟩ := p
            rw [h5] at h
            simp only [Option.some.injEq, Prod.mk.injEq] at h
            obtain ⟨-, rfl, -, rfl⟩ := h
            exact ⟨spanOf_lt h4, spanOf_lt h5⟩
theorem addMark_len : ∀ (hs : List Hunk) (m : Mark), (addMark hs m).length = hs.length
  | [], _ => rfl
  | [_], _ => rfl
  | h :: k :: r, m => by
    show (h :: addMark (k :: r) m).length = _
    rw [List.length_cons, addMark_len (k :: r) m]; rfl
theorem addMark_marks : ∀ (hs : List Hunk) (m : Mark) (j : Nat), (∀ h ∈ hs, h.marks.length ≤ j) → ∀ h ∈ addMark hs m, h.marks.length ≤ j + 1
  | [], _, _, _, _, hh => by cases hh
  | [h], m, j, hb, x, hx => by
    have := hb h (List.mem_cons_self ..)
    simp only [addMark, List.mem_cons, List.not_mem_nil, or_false] at hx
    subst hx
    simp only [List.length_append, List.length_cons, List.length_nil]
    omega
  | h :: k :: r, m, j, hb, x, hx => by
    rcases List.mem_cons.1 (show x ∈ h :: addMark (k :: r) m from hx) with rfl | hx
    · have := hb x (List.mem_cons_self ..); omega
    · exact addMark_marks (k :: r) m j (fun y hy => hb y (List.mem_cons_of_mem _ hy)) x hx
/-- what a reader holds behind j lines -/
structure RdB (hs : List Hunk) (o n j : Nat) : Prop where
  ok : RdOk hs o n
  len : hs.length ≤ j
  marks : ∀ h ∈ hs, h.marks.length ≤ j
  on : o < 1000 ∧ n < 1000
theorem rdB_start : RdB [] 0 0 0 := ⟨rdOk_start, Nat.le_refl _, fun _ h => (by cases h), by decide, by decide⟩
theorem rdB_step {hs hs' : List Hunk} {o n o' n' j : Nat} {s : List UInt8} (h : RdB hs o n j) (hr : readLine hs o n s = some (hs', o', n')) : RdB hs' o' n' (j + 1) := by
  have hok := readLine_ok h.ok hr
  refine ⟨fun _ => hok, ?_, ?_, ?_⟩
  all_goals
    have hl := h.len
    have hm := h.marks
    have hon := h.on
    unfold readLine at hr
    by_cases q : 0 < o ∨ 0 < n
    · rw [if_pos q] at hr
      cases s with
      | nil => cases hr
      | cons c r =>
        simp only at hr
        split at hr
        · injection hr with hr; injection hr with h1 h2; injection h2 with h2 h3; subst h1; subst h2; subst h3
          first | (rw [addMark_len]; omega) | exact addMark_marks _ _ _ hm | (constructor <;> omega)
        · split at hr
          · injection hr with hr; injection hr with h1 h2; injection h2 with h2 h3; subst h1; subst h2; subst h3
            first | (rw [addMark_len]; omega) | exact addMark_marks _ _ _ hm | (constructor <;> omega)
          · split at hr
            · injection hr with hr; injection hr with h1 h2; injection h2 with h2 h3; subst h1; subst h2; subst h3
              first | (rw [addMark_len]; omega) | exact addMark_marks _ _ _ hm | (constructor <;> omega)
            · cases hr
    · rw [if_neg q] at hr
      cases hd : headOf s with
      | none => rw [hd] at hr; cases hr
      | some p =>
        obtain ⟨a, x, b, y⟩ := p
        have hxy := headOf_lt hd
        rw [hd] at hr
        simp only [Option.some.injEq, Prod.mk.injEq] at hr
        obtain ⟨rfl, rfl, rfl⟩ := hr
        first
          | (rw [List.length_append]; simp only [List.length_cons, List.length_nil]; omega)
          | exact hxy
          | (intro k hk
             rcases List.mem_append.1 hk with hk | hk
             · have := hm k hk; omega
             · simp only [List.mem_cons, List.not_mem_nil, or_false] at hk
               subst hk
               exact Nat.zero_le _)
/-- the hunks of a change: what is read from here on is what was read from the start -/
structure TakeInv (R l : List (List UInt8)) (hs : List Hunk) (o n : Nat) : Prop where
  take : takeU l hs o n = takeU R [] 0 0
theorem tinv_start (R : List (List UInt8)) : TakeInv R R [] 0 0 := ⟨rfl⟩
theorem tinv_step {R l : List (List UInt8)} {hs hs' : List Hunk} {o n o' n' : Nat} {s : List UInt8} (h : TakeInv R (s :: l) hs o n) (hc : (0 < o ∨ 0 < n) ∨ hunkHead s = true) (hr : readLine hs o n s = some (hs', o', n')) : TakeInv R l hs' o' n' :=
  ⟨by rw [← h.take, take_cons hc hr]⟩
theorem tinv_bad {R l : List (List UInt8)} {hs : List Hunk} {o n : Nat} {s : List UInt8} (h : TakeInv R (s :: l) hs o n) (hc : (0 < o ∨ 0 < n) ∨ hunkHead s = true) (hr : readLine hs o n s = none) : takeU R [] 0 0 = none := by
  rw [← h.take, takeU, if_pos hc, hr]
theorem tinv_open {R : List (List UInt8)} {hs : List Hunk} {o n : Nat} (h : TakeInv R [] hs o n) (hc : 0 < o ∨ 0 < n) : takeU R [] 0 0 = none := by
  rw [← h.take, takeU, if_pos hc]
theorem tinv_end {R l : List (List UInt8)} {hs : List Hunk} {o n : Nat} (h : TakeInv R l hs o n) (hc : ¬ (0 < o ∨ 0 < n)) (hl : ∀ s r, l = s :: r → hunkHead s = false) : takeU R [] 0 0 = some (hs, l) := by
  rw [← h.take]
  cases l with
  | nil => rw [takeU, if_neg hc]
  | cons s r => rw [takeU, if_neg (fun q => q.elim hc (fun q => by rw [hl s r rfl] at q; cases q))]
end Go.Proofs.YtnekhaacapdmfaaDoor
namespace Go.Proofs.YtnekhaacapdmfaaDoor
open Go.RowKit

/-- 's[i:j]' as a run, at whatever element type -/
theorem slice_g {P : Program} {t : TypeId} (ht : P.underlying t = some (.slice (P.elem t))) {α : Type} [Dat α] (hsz : ∀ w, (sizeOf (P.elem t)).run P w = .ok (Dat.n α) w) {w0 : World} {O : Nat → Prop} {a : Option Addr} {cap : Nat} {l : List α} (h : Rdv w0 O (.slice a l.length cap) l) (i j : Nat) (hij : i ≤ j) (hj : j ≤ l.length) :
    ∃ b, (∀ (x y : Int) (w : World), x = i → y = j → (Instr.slice t (.slice a l.length cap) (some (.int .i64 x)) (some (.int .i64 y)) none).run P w = .ok (.slice b (j - i) (cap - i)) w) ∧
      (∀ (x : Int) (w : World), x = i → j = l.length → (Instr.slice t (.slice a l.length cap) (some (.int .i64 x)) none none).run P w = .ok (.slice b (j - i) (cap - i)) w) ∧
      (∀ (y : Int) (w : World), i = 0 → y = j → (Instr.slice t (.slice a l.length cap) none (some (.int .i64 y)) none).run P w = .ok (.slice b (j - i) (cap - i)) w) ∧
      Rdv w0 O (.slice b (j - i) (cap - i)) ((l.drop i).take (j - i)) := by
  have hr := rdv_sliced h i j hij hj
  obtain ⟨b, hb⟩ := sliced_isSlice a i j cap (Dat.n α)
  obtain ⟨a', cap', e, h1, h2, h3⟩ := rdv_slice h
  simp only [Value.slice.injEq, true_and] at e
  obtain ⟨rfl, rfl⟩ := e
  refine ⟨b, ?_, ?_, ?_, hb ▸ hr⟩
  · rintro x y w rfl rfl
    rw [run_slice_lh w t a l.length cap ht .i64 .i64 _ _ (by omega) (by omega) (by omega), hsz]
    simp only [Result.andThen_ok, Int.toNat_natCast]
    rw [hb]
  · rintro x w rfl rfl
    rw [run_slice_l w t a l.length cap ht .i64 _ (by omega) (by omega), hsz]
    simp only [Result.andThen_ok, Int.toNat_natCast]
    rw [hb]
  · rintro y w rfl rfl
    rw [run_slice_h w t a l.length cap ht .i64 _ (by omega) (by omega), hsz]
    simp only [Result.andThen_ok, Int.toNat_natCast]
    rw [hb]
end Go.Proofs.YtnekhaacapdmfaaDoor
namespace Go.Proofs.YtnekhaacapdmfaaDoor
open Go.RowKit

theorem run_many2 {P : Program} {α : Type} [Dat α] {t ty e : TypeId} (hP : ElemOk P t e (Dat.n α)) {w0 : World} {O : Nat → Prop} {v x : Value} {l m : List α}
    (hown : Own e w0 O v l) (hx : Rdv w0 (fun k => O k ∨ v.ownBlock = some k) x m) (hO : ∀ k, O k → k < w0.heap.size) (hlen : l.length + m.length ≤ 1000000000) :
    ∃ v' w', (Builtin.append_ #[t, t] ty #[v, x]).run P w0 = .ok v' w' ∧ Own e w' O v' (l ++ m) ∧ Chg (OwnB v) w0 w' ∧ (∀ k, v'.ownBlock = some k → v.ownBlock = some k ∨ w0.heap.size ≤ k) := by
  obtain ⟨a, cap, rfl, c1, c2, hel⟩ := rdv_slice hx
  rcases Nat.eq_zero_or_pos m.length with h0 | hpos
  · have : m = [] := List.eq_nil_of_length_eq_zero h0
    subst this
    refine ⟨v, w0, ?_, by rw [List.append_nil]; exact hown, Chg.refl _ _, fun k hk => .inl hk⟩
    obtain ⟨xs, hrow, _⟩ := hown
    exact run_append_empty hP hrow a cap
  · obtain ⟨b, off, rfl⟩ : ∃ b off, a = some ⟨b, off, none⟩ := by
      obtain ⟨b, off, es, ha, _⟩ := hel 0 m[0] (by simp [hpos])
      exact ⟨b, off, ha⟩
    obtain ⟨i, z, hi, hz, hsz, hzs, hby⟩ := hP.info
    obtain ⟨xs, hrow, hb, hels⟩ := id hown
    obtain ⟨news, n1, n2, n3, n4⟩ := elems_cells hel m.length (Nat.le_refl _)
    have hpos' := Dat.pos (α := α)
    have hcells : ∀ j u, news[j]? = some u → w0.cell? ((⟨b, off, none⟩ : Addr).add j) = some u := by
      intro j u hj
      have e1 : (⟨b, off, none⟩ : Addr).add j = ⟨b, off + j, none⟩ := by unfold Addr.add; split <;> simp_all
      rw [e1]
      exact n2 j u hj
    have hbound : (l.length + m.length) * i.bytes ≤ 140737488355328 := by
      have := Nat.mul_le_mul hlen hby
      omega
    obtain ⟨v', w', hrun, hown', hgrow, hnil⟩ := run_append_own (P := P) w0 0 t ty e i z (Dat.n α) i.bytes hP.ht hi hz hsz rfl hzs hpos' v l.length xs hrow
      ⟨b, off, none⟩ m.length cap news n1 hcells n3 (by unfold maxLen; omega) hbound (Nat.zero_le _)
    obtain ⟨kb, hkb, hkb'⟩ := append_block (P := P) w0 0 t ty e i z (Dat.n α) i.bytes hP.ht hi hz hsz rfl v l.length xs hrow
      ⟨b, off, none⟩ m.length cap news n1 hcells n3 (by unfold maxLen; omega) hbound (by omega) hrun
    have hc : Chg (OwnB v) w0 w' := Chg.of_grown hgrow
    have hsub : ∀ k, k < w0.heap.size → (O k ∨ v'.ownBlock = some k) → (O k ∨ v.ownBlock = some k) := by
      rintro k hk (h | h)
      · exact .inl h
      · rw [hkb] at h
        injection h with h
        subst h
        rcases hkb' with h | h
        · exact .inr h
        · omega
    refine ⟨v', w', hrun, ⟨xs ++ news, ?_, ?_, ?_⟩, hc, fun k hk => by rw [hkb] at hk; injection hk with hk; subst hk; exact hkb'.imp_right (fun h => Nat.le_of_eq h.symm)⟩
    · rw [List.length_append]; exact hown'
    · intro k hk ho
      rw [hkb] at hk
      injection hk with hk
      subst hk
      rcases hkb' with h | h
      · exact hb _ h ho
      · exact absurd (hO _ ho) (by omega)
    · intro j y hj
      have hxl : xs.length = l.length * Dat.n α := hrow.1
      rcases Nat.lt_or_ge j l.length with hjl | hjl
      · rw [List.getElem?_append_left hjl] at hj
        have hle : j * Dat.n α + Dat.n α ≤ xs.length := by rw [hxl, ← Nat.succ_mul]; exact Nat.mul_le_mul_right _ hjl
        rw [List.drop_append_of_le_length (by omega), List.take_append_of_le_length (by rw [List.length_drop]; omega)]
        exact Dat.keep (hels j y hj) hc (fun k _ hk => .inr hk) hsub
      · rw [List.getElem?_append_right hjl] at hj
        have hjm := (List.getElem?_eq_some_iff.1 hj).1
        have e1 : (xs ++ news).drop (j * Dat.n α) = news.drop ((j - l.length) * Dat.n α) := by
          have e2 : j * Dat.n α = xs.length + (j - l.length) * Dat.n α := by rw [hxl, ← Nat.add_mul]; congr 1; omega
          rw [e2, List.drop_append]
          simp
        rw [e1]
        exact Dat.keep (n4 _ y hjm hj) hc (fun k _ hk => .inr hk) hsub

theorem wpList_many2 {P : Program} {ops : Array Oper} {rest : List Oper} {o : Oper} {a : Act} {Q : Exit → Act → World → Prop} (hgd : o.guard = none) (s x : Operand) (t : TypeId)
    (ho : o.op = .call { callee := .builtin .append, args := #[s, x], argTypes := #[t, t] }) {α : Type} [Dat α] {e : TypeId} (hP : ElemOk P t e (Dat.n α)) {w0 : World} {O : Nat → Prop} {v u : Value} {l m : List α}
    (hs : a.eval s = v) (hx : a.eval x = u) (hown : Own e w0 O v l) (hu : Rdv w0 (fun k => O k ∨ v.ownBlock = some k) u m) (hO : ∀ k, O k → k < w0.heap.size) (hlen : l.length + m.length ≤ 1000000000)
    (h : ∀ v' w', Own e w' O v' (l ++ m) → Chg (OwnB v) w0 w' → (∀ k, v'.ownBlock = some k → v.ownBlock = some k ∨ w0.heap.size ≤ k) → wpList P ops Q rest (a.put o.dst v') w') :
    wpList P ops Q (o :: rest) a w0 := by
  refine wpList_plain hgd fun K hK => ?_
  obtain ⟨v', w', hrun, h1, h2, h3⟩ := run_many2 (ty := o.type) hP hown hu hO hlen
  unfold Oper.wp execOp
  simp only [ho, resolve, invoke, builtin, Sem.run_bind, Sem.run_pure, Result.andThen_ok, List.map_toArray, List.map_cons, List.map_nil, hs, hx, hrun]
  exact hK _ _ (h v' w' h1 h2 h3)

/-- v owns its row, which has come since w0; its elements may lie wherever -/
structure OwnN {α : Type} [Dat α] (e : TypeId) (w0 wr : World) (v : Value) (l : List α) : Prop where
  own : Own e wr Never v l
  new : ∀ k, v.ownBlock = some k → w0.heap.size ≤ k
  chg : Chg Never w0 wr
theorem ownN_nil {α : Type} [Dat α] (e : TypeId) {w0 wr : World} (h : Chg Never w0 wr) : OwnN e w0 wr (.slice none 0 0) ([] : List α) :=
  ⟨own_nil _ _ _, fun k hk => by simp [Value.ownBlock] at hk, h⟩
theorem OwnN.step {α : Type} [Dat α] {e : TypeId} {w0 wr w' : World} {v v' : Value} {l l' : List α} (h : OwnN e w0 wr v l) (hown : Own e w' Never v' l') (hc : Chg (OwnB v) wr w') (hk : ∀ k, v'.ownBlock = some k → v.ownBlock = some k ∨ wr.heap.size ≤ k) : OwnN e w0 w' v' l' :=
  ⟨hown, fun k hk' => (hk k hk').elim (h.new k) (fun hh => Nat.le_trans h.chg.size hh), h.chg.trans' hc (fun i hi hh => absurd (h.new i hh) (by omega))⟩
theorem OwnN.step1 {α : Type} [Dat α] {e : TypeId} {w0 wr w' : World} {v v' : Value} {l l' : List α} (h : OwnN e w0 wr v l) (hown : Own e w' Never v' l') (hc : Chg (OwnB v) wr w') (hk : ∃ k, v'.ownBlock = some k ∧ (v.ownBlock = some k ∨ wr.heap.size ≤ k)) : OwnN e w0 w' v' l' :=
  h.step hown hc (fun k hk' => by
    obtain ⟨j, h1, h2⟩ := hk
    rw [h1] at hk'
    injection hk' with hk'
    subst hk'
    exact h2)
theorem OwnN.never {α : Type} [Dat α] {e : TypeId} {w0 wr w' : World} {v : Value} {l : List α} (h : OwnN e w0 wr v l) (hc : Chg Never wr w') : OwnN e w0 w' v l := ⟨h.own.never hc, h.new, h.chg.trans hc⟩
/-- what was there at the beginning does not lie in the row -/
theorem OwnN.away {α β : Type} [Dat α] [Dat β] {e : TypeId} {w0 wr : World} {v u : Value} {l : List α} {x : β} (h : OwnN e w0 wr v l) (hu : Rdv w0 Never u x) : Rdv wr (fun k => Never k ∨ v.ownBlock = some k) u x :=
  (hu.sub (O' := fun k => Never k ∨ v.ownBlock = some k) (fun k hk hh => by
    rcases hh with hh | hh
    · exact hh
    · exact absurd (h.new k hh) (by omega))).never h.chg
end Go.Proofs.YtnekhaacapdmfaaDoor
namespace Go.Proofs.YtnekhaacapdmfaaDoor
open Go.RowKit

/-- what has come since does not lie in the row -/
theorem OwnN.fresh {α β : Type} [Dat α] [Dat β] {e : TypeId} {w0 wr w' : World} {v u : Value} {l : List α} {x : β} (h : OwnN e w0 wr v l) (hu : Rdv w' (Old wr.heap.size) u x) : Rdv w' (fun k => Never k ∨ v.ownBlock = some k) u x :=
  hu.sub (fun k _ hh => by
    rcases hh with hh | hh
    · exact hh.elim
    · exact own_block_lt h.own k hh)
end Go.Proofs.YtnekhaacapdmfaaDoor
namespace Go.Proofs.YtnekhaacapdmfaaDoor
open Go.RowKit

def bytesL (l : List ByteArray) : List (List UInt8) := l.map fun x => x.data.toList
def chgsL (l : List ByteArray) : Option (List Change) := changesG (bytesL l).length (bytesL l)
theorem bytesL_drop (l : List ByteArray) (i : Nat) : (bytesL l).drop i = bytesL (l.drop i) := (List.map_drop ..).symm
def sliceLenOf : Value → Nat
  | .slice _ n _ => n
  | _ => 0
/-- what the two lines' reading says -/
def HeadIs (H : Option (Int × List UInt8)) (K : Int) (P : ByteArray) (B : Bool) : Prop := (B = false ∧ H = none) ∨ (B = true ∧ ∃ p, H = some (K, p) ∧ P = toB p)
theorem headed_is (a b : ByteArray) (w : World) (ha : a.size ≤ 1000000000) (hb : b.size ≤ 1000000000) :
    Calls Tryd.prog 59 #[.string a, .string b] w fun e w' => ∃ K P B, e = .returned (.tuple #[.agg #[.int .i64 K, .string P, .slice none 0 0], .bool B]) ∧ Chg Never w w' ∧ Hid (HeadIs (headedL a.data.toList b.data.toList) K P B) := by
  refine (headed_any a b w ha hb).mono ?_
  rintro e w' ⟨hc, hp⟩
  cases hh : headedL a.data.toList b.data.toList with
  | none =>
    rw [hh] at hp
    exact ⟨_, _, _, hp, hc, .inl ⟨rfl, rfl⟩⟩
  | some x =>
    obtain ⟨c, p⟩ := x
    rw [hh] at hp
    exact ⟨_, _, _, hp, hc, .inr ⟨rfl, p, rfl, rfl⟩⟩
theorem headed_len {a b p : List UInt8} {c : Int} (h : headedL a b = some (c, p)) : p.length ≤ a.length + b.length := by
  obtain ⟨hw, e1, e2⟩ := headed_some h
  have l1 := congrArg List.length e1
  have l2 := congrArg List.length e2
  rw [List.length_append] at l1 l2
  rcases hw with rfl | rfl | rfl
  · rw [show fromL 1 p = [97, 47] ++ p from rfl, List.length_append] at l1; omega
  · rw [show toL 2 p = [98, 47] ++ p from rfl, List.length_append] at l2; omega
  · rw [show fromL 3 p = [97, 47] ++ p from rfl, List.length_append] at l1; omega
theorem rdv_tail {w : World} {O : Nat → Prop} {a : Option Addr} {n cap k : Nat} {l : List ByteArray} (h : Rdv w O (.slice a n cap) l) (hn : n = l.length) (hk : k ≤ l.length) :
    ∃ b, (∀ (wx : World), (Instr.slice 62 (.slice a n cap) (some (.int .i64 (k : Nat))) none none).run Tryd.prog wx = .ok (.slice b (n - k) (cap - k)) wx) ∧ Rdv w O (.slice b (n - k) (cap - k)) (l.drop k) := by
  subst hn
  obtain ⟨b, _, h2, _, h4⟩ := slice_g (P := Tryd.prog) (t := 62) (by kernel_rfl) size_str h k l.length hk (Nat.le_refl _)
  exact ⟨b, fun wx => h2 (k : Nat) wx rfl rfl, by rw [List.take_of_length_le (by rw [List.length_drop]; omega)] at h4; exact h4⟩

theorem ckeep {w2 wr wq : World} {p q : Addr} {a b : Value} (h : Chg Never w2 wr ∧ wr.cell? p = some a ∧ wr.cell? q = some b) (k : Chg Never wr wq) : Chg Never w2 wq ∧ wq.cell? p = some a ∧ wq.cell? q = some b :=
  ⟨h.1.trans k, k.cellNever h.2.1, k.cellNever h.2.2⟩
set_option maxHeartbeats 2000000 in
set_option maxRecDepth 100000 in
theorem changes_any (l : List ByteArray) (v : Value) (w : World) (h : Rdv w Never v l) (hl : l.length ≤ 1000000) (hs : ∀ x ∈ l, x.size ≤ 1000000000) (m : Int) (hg : Globs w m) :
    Calls Tryd.prog 43 #[v] w fun e w' => ∃ r, e = .returned (.tuple #[r, .bool (chgsL l).isSome]) ∧ Chg Never w w' ∧ Rdv w' Never r ((chgsL l).getD []) := by
  obtain ⟨a, cap, rfl, h1, h2, -⟩ := rdv_slice h
  unfold maxLen at h2
  have HS := Lib.hid hs
  clear hs
  go_enter Tryd.func43, Tryd.ntmps43
  go_wp2_with fail
  go_loopw [0, 4] (fun bv ov wr => ∃ (i : Nat) (L : List Change), i ≤ l.length ∧ Rdv w Never bv (l.drop i) ∧ OwnN 43 w wr ov L ∧ L.length ≤ i ∧ Hid (ChgsInv (bytesL l) i L)) (fun bv _ _ => sliceLenOf bv)
  case atStart => exact ⟨0, [], Nat.zero_le _, h, ownN_nil _ (Chg.refl Never w), Nat.le_refl _, cinv_start _⟩
  case round =>
    clear h
    obtain ⟨i, L, hi, hb, hn, hLl, hI⟩ := hrel
    rename World => wr
    obtain ⟨oa, on, oc, rfl⟩ := own_isSlice hn.own
    obtain ⟨ab, capb, rfl, b1, b2, b3⟩ := rdv_slice hb
    unfold maxLen at b2
    have hdl : (l.drop i).length = l.length - i := List.length_drop
    have HD := Lib.hid (bytesL_drop l i)
    cases hR : l.drop i with
    | nil =>
      have hr : Hid (chgsL l = some L) := cinv_end hI.out (by rw [hR] at hdl; simp at hdl; unfold bytesL; rw [List.length_map]; omega)
      clear hb b3 hdl HD
      go_wp2_with fail
      go_ret2
      exact ⟨_, by rw [hr.out]; rfl, hn.chg, by rw [hr.out]; exact hn.own.rdv⟩
    | cons x R1 =>
      cases R1 with
      | nil =>
        rw [hR] at hdl
        simp only [List.length_cons, List.length_nil] at hdl
        clear hb b3 HD
        have hr : Hid (chgsL l = none) := cinv_one hI.out (by unfold bytesL; rw [List.length_map]; omega)
        go_wp2_with fail
        go_ret2
        exact ⟨_, by rw [hr.out]; rfl, hn.chg, by rw [hr.out]; exact rdv_nil _ _⟩
      | cons y R2 =>
        have zx := HS.out x (List.mem_of_mem_drop (i := i) (by rw [hR]; simp))
        have zy := HS.out y (List.mem_of_mem_drop (i := i) (by rw [hR]; simp))
        have HD2 : Hid ((bytesL l).drop i = x.data.toList :: y.data.toList :: bytesL R2) := by rw [Hid, HD.out, hR]; rfl
        rw [hR] at hb b1 b3 hdl
        obtain ⟨g, off, rfl, -, -, c0, -⟩ := elems_str b3 (i := 0) (x := x) rfl
        obtain ⟨g', off', hq, -, -, c1, -⟩ := elems_str b3 (i := 1) (x := y) rfl
        simp only [Option.some.injEq, Addr.mk.injEq, and_true] at hq
        obtain ⟨rfl, rfl⟩ := hq
        have hdR : l.drop (i + 2) = R2 := by rw [← List.drop_drop, hR]; rfl
        obtain ⟨sb, hrun, hsub⟩ := rdv_tail hb rfl (k := 2) (by simp)
        have hn2 : 2 ≤ (x :: y :: R2).length := by simp
        have HR2 := Lib.hid hdR
        obtain ⟨n, hnn⟩ : ∃ n, (x :: y :: R2).length = n := ⟨_, rfl⟩
        rw [hnn] at hrun hsub hn2 hdl b1 ⊢
        have hsub : Rdv w Never (.slice sb (n - 2) (capb - 2)) (l.drop (i + 2)) := by rw [hdR]; exact hsub
        have hil : i + 2 ≤ l.length := by omega
        have hnl : n ≤ 1000000 := by omega
        simp only [Nat.add_zero] at c0
        have c0 := hn.chg.cellNever c0
        have c1 := hn.chg.cellNever c1
        have HN := Lib.hid hdl
        have hn1 : (1 : Int) < (n : Int) := by omega
        have hn0 : (0 : Int) < (n : Int) := by omega
        clear hb b3 hR hdR hnn HD hdl
        go_upto_region 5 with fail
        go_cut [5, 6] from 8 to 54 (fun p b wx => ∃ k K P B, p = .pointer (some ⟨k, 0, none⟩) ∧ b = .bool B ∧ wr.heap.size ≤ k ∧ Hid (Chg Never wr wx) ∧ Hid (HeadIs (headedL x.data.toList y.data.toList) K P B) ∧ Blk3 wx k 43 (.int .i64 K) (.string P) (.slice none 0 0))
        case first =>
          refine wp_region_held_drew (S := fun w' => Chg Never wr w' ∧ w'.cell? ⟨g, off, none⟩ = some (.string x) ∧ w'.cell? ⟨g, off + 1, none⟩ = some (.string y)) (by kernel_rfl) ⟨(Chg.refl Never wr).drew, c0, c1⟩ (fun hH => ?_)
          refine' wpAnyH_take (i := 0) ?hi0 (by kernel_rfl) (by kernel_rfl) (by kernel_rfl) ?hQ0 (Or.inl ⟨?hw0, ?hy0⟩) (by assumption) ?_
          case hi0 => (simp only [List.getElem?_toArray, List.getElem?_cons_succ, List.getElem?_cons_zero]; rfl)
          case hQ0 => exact fun _ _ _ h => h
          case hw0 => rfl
          case hy0 => (intro w' hSw; (try dsimp only at hSw); go_simp; all_goals with_reducible rfl)
          try simp only [Act.put, List.setIfInBounds_toArray, List.set_cons_zero, List.set_cons_succ]
          refine' wpAnyH_take (i := 1) ?hi1 (by kernel_rfl) (by kernel_rfl) (by kernel_rfl) ?hQ1 (Or.inl ⟨?hw1, ?hy1⟩) (by assumption) ?_
          case hi1 => (simp only [List.getElem?_toArray, List.getElem?_cons_succ, List.getElem?_cons_zero]; rfl)
          case hQ1 => exact fun _ _ _ h => h
          case hw1 => rfl
          case hy1 => (intro w' hSw; (try dsimp only at hSw); go_simp; all_goals with_reducible rfl)
          try simp only [Act.put, List.setIfInBounds_toArray, List.set_cons_zero, List.set_cons_succ]
          refine' wpAnyH_take (i := 2) ?hi2 (by kernel_rfl) (by kernel_rfl) (by kernel_rfl) ?hQ2 (Or.inl ⟨?hw2, ?hy2⟩) (by assumption) ?_
          case hi2 => (simp only [List.getElem?_toArray, List.getElem?_cons_succ, List.getElem?_cons_zero]; rfl)
          case hQ2 => exact fun _ _ _ h => h
          case hw2 => rfl
          case hy2 => (intro w' hSw; (try dsimp only at hSw); go_simp; all_goals with_reducible rfl)
          try simp only [Act.put, List.setIfInBounds_toArray, List.set_cons_zero, List.set_cons_succ]
          refine' wpAnyH_take (i := 3) ?hi3 (by kernel_rfl) (by kernel_rfl) (by kernel_rfl) ?hQ3 (Or.inl ⟨?hw3, ?hy3⟩) (by assumption) ?_
          case hi3 => (simp only [List.getElem?_toArray, List.getElem?_cons_succ, List.getElem?_cons_zero]; rfl)
          case hQ3 => exact fun _ _ _ h => h
          case hw3 => rfl
          case hy3 => (intro w' hSw; (try dsimp only at hSw); go_simp; all_goals with_reducible rfl)
          try simp only [Act.put, List.setIfInBounds_toArray, List.set_cons_zero, List.set_cons_succ]
          refine' wpAnyH_take (i := 4) ?hi4 (by kernel_rfl) (by kernel_rfl) (by kernel_rfl) ?hQ4 (Or.inl ⟨?hw4, ?hy4⟩) (by assumption) ?_
          case hi4 => (simp only [List.getElem?_toArray, List.getElem?_cons_succ, List.getElem?_cons_zero]; rfl)
          case hQ4 => exact fun _ _ _ h => h
          case hw4 => rfl
          case hy4 => (intro w' hSw; (try dsimp only at hSw); go_simp; all_goals with_reducible rfl)
          try simp only [Act.put, List.setIfInBounds_toArray, List.set_cons_zero, List.set_cons_succ]
          refine' wpAnyH_take (i := 5) ?hi5 (by kernel_rfl) (by kernel_rfl) (by kernel_rfl) ?hQ5 (Or.inl ⟨?hw5, ?hy5⟩) (by assumption) ?_
          case hi5 => (simp only [List.getElem?_toArray, List.getElem?_cons_succ, List.getElem?_cons_zero]; rfl)
          case hQ5 => exact fun _ _ _ h => h
          case hw5 => rfl
          case hy5 => (intro w' hSw; (try dsimp only at hSw); go_simp; all_goals with_reducible rfl)
          try simp only [Act.put, List.setIfInBounds_toArray, List.set_cons_zero, List.set_cons_succ]
          refine wpAnyH_ready (rs := [6, 10]) (by kernel_rfl) (by simp) ?_
          refine AllReadyH.cons rfl (fun K hK => ?_) (AllReadyH.cons rfl (fun K hK => ?_) AllReadyH.nil)
          · go_simp
            go_at_call 59
            refine (headed_is x y _ zx zy).mono ?_
            rintro e wq ⟨K1, P, B, rfl, hcq, hHq⟩
            try go_wp2_with fail
            refine hK.out _ _ ?_ (fun hH => ?_)
            · exact ckeep (by assumption) hcq
            clear hK K
            try simp only [Act.put, List.setIfInBounds_toArray, List.set_cons_zero, List.set_cons_succ]
            refine' wpAnyH_take (i := 7) ?hi7 (by kernel_rfl) (by kernel_rfl) (by kernel_rfl) ?hQ7 (Or.inl ⟨?hw7, ?hy7⟩) (by assumption) ?_
            case hi7 => (simp only [List.getElem?_toArray, List.getElem?_cons_succ, List.getElem?_cons_zero]; rfl)
            case hQ7 => exact fun _ _ _ h => h
            case hw7 => rfl
            case hy7 => (intro w' hSw; (try dsimp only at hSw); go_simp; all_goals with_reducible rfl)
            try simp only [Act.put, List.setIfInBounds_toArray, List.set_cons_zero, List.set_cons_succ]
            refine' wpAnyH_take (i := 8) ?hi8 (by kernel_rfl) (by kernel_rfl) (by kernel_rfl) ?hQ8 (Or.inl ⟨?hw8, ?hy8⟩) (by assumption) ?_
            case hi8 => (simp only [List.getElem?_toArray, List.getElem?_cons_succ, List.getElem?_cons_zero]; rfl)
            case hQ8 => exact fun _ _ _ h => h
            case hw8 => rfl
            case hy8 => (intro w' hSw; (try dsimp only at hSw); go_simp; all_goals with_reducible rfl)
            try simp only [Act.put, List.setIfInBounds_toArray, List.set_cons_zero, List.set_cons_succ]
            refine' wpAnyH_take (i := 9) ?hi9 (by kernel_rfl) (by kernel_rfl) (by kernel_rfl) ?hQ9 (Or.inl ⟨?hw9, ?hy9⟩) (by assumption) ?_
            case hi9 => (simp only [List.getElem?_toArray, List.getElem?_cons_succ, List.getElem?_cons_zero]; rfl)
            case hQ9 => exact fun _ _ _ h => h
            case hw9 => rfl
            case hy9 => (intro w' hSw; (try dsimp only at hSw); go_simp; all_goals with_reducible rfl)
            try simp only [Act.put, List.setIfInBounds_toArray, List.set_cons_zero, List.set_cons_succ]
            refine wpAnyH_ready (rs := [10]) (by kernel_rfl) (by simp) ?_
            refine AllReadyH.cons rfl (fun K hK => ?_) AllReadyH.nil
            go_simp
            refine hK.out _ _ ?_ (fun hH => ?_)
            · exact ckeep (by assumption) ((Chg.refl Never _).alloc _)
            clear hK K
            try simp only [Act.put, List.setIfInBounds_toArray, List.set_cons_zero, List.set_cons_succ]
            refine wpAnyH_ready (rs := [11]) (by kernel_rfl) (by simp) ?_
            refine AllReadyH.cons rfl (fun K hK => ?_) AllReadyH.nil
            go_simp
            have hBk := Blk3.new wq 43 (.int .i64 K1) (.string P) (.slice none 0 0)
            have hcA := ((And.left (by assumption) : Chg Never wr wq)).alloc (.cells #[.int .i64 K1, .string P, .slice none 0 0] 43)
            have hle : wr.heap.size ≤ wq.heap.size := (And.left (by assumption) : Chg Never wr wq).size
            refine hK.out _ _ (ckeep (by assumption) ((Chg.refl Never _).alloc _)) (fun hH => ?_)
            clear hK K
            try simp only [Act.put, List.setIfInBounds_toArray, List.set_cons_zero, List.set_cons_succ]
            refine' wpAnyH_take (i := 12) ?hi12 (by kernel_rfl) (by kernel_rfl) (by kernel_rfl) ?hQ12 (Or.inl ⟨?hw12, ?hy12⟩) (by assumption) ?_
            case hi12 => (simp only [List.getElem?_toArray, List.getElem?_cons_succ, List.getElem?_cons_zero]; rfl)
            case hQ12 => exact fun _ _ _ h => h
            case hw12 => rfl
            case hy12 => (intro w' hSw; (try dsimp only at hSw); go_simp; all_goals with_reducible rfl)
            try simp only [Act.put, List.setIfInBounds_toArray, List.set_cons_zero, List.set_cons_succ]
            refine wpAnyH_done (by kernel_rfl) ?_ _
            go_wp2_with fail
            go_meet
            exact ⟨_, K1, P, B, rfl, rfl, hle, hcA, hHq, hBk⟩
          · go_simp
            refine hK.out _ _ ?_ (fun hH => ?_)
            · exact ckeep (by assumption) ((Chg.refl Never _).alloc _)
            clear hK K
            try simp only [Act.put, List.setIfInBounds_toArray, List.set_cons_zero, List.set_cons_succ]
            refine wpAnyH_ready (rs := [6]) (by kernel_rfl) (by simp) ?_
            refine AllReadyH.cons rfl (fun K hK => ?_) AllReadyH.nil
            go_simp
            go_at_call 59
            refine (headed_is x y _ zx zy).mono ?_
            rintro e wq ⟨K1, P, B, rfl, hcq, hHq⟩
            try go_wp2_with fail
            refine hK.out _ _ ?_ (fun hH => ?_)
            · exact ckeep (by assumption) hcq
            clear hK K
            try simp only [Act.put, List.setIfInBounds_toArray, List.set_cons_zero, List.set_cons_succ]
            refine' wpAnyH_take (i := 7) ?hi7 (by kernel_rfl) (by kernel_rfl) (by kernel_rfl) ?hQ7 (Or.inl ⟨?hw7, ?hy7⟩) (by assumption) ?_
            case hi7 => (simp only [List.getElem?_toArray, List.getElem?_cons_succ, List.getElem?_cons_zero]; rfl)
            case hQ7 => exact fun _ _ _ h => h
            case hw7 => rfl
            case hy7 => (intro w' hSw; (try dsimp only at hSw); go_simp; all_goals with_reducible rfl)
            try simp only [Act.put, List.setIfInBounds_toArray, List.set_cons_zero, List.set_cons_succ]
            refine' wpAnyH_take (i := 8) ?hi8 (by kernel_rfl) (by kernel_rfl) (by kernel_rfl) ?hQ8 (Or.inl ⟨?hw8, ?hy8⟩) (by assumption) ?_
            case hi8 => (simp only [List.getElem?_toArray, List.getElem?_cons_succ, List.getElem?_cons_zero]; rfl)
            case hQ8 => exact fun _ _ _ h => h
            case hw8 => rfl
            case hy8 => (intro w' hSw; (try dsimp only at hSw); go_simp; all_goals with_reducible rfl)
            try simp only [Act.put, List.setIfInBounds_toArray, List.set_cons_zero, List.set_cons_succ]
            refine' wpAnyH_take (i := 9) ?hi9 (by kernel_rfl) (by kernel_rfl) (by kernel_rfl) ?hQ9 (Or.inl ⟨?hw9, ?hy9⟩) (by assumption) ?_
            case hi9 => (simp only [List.getElem?_toArray, List.getElem?_cons_succ, List.getElem?_cons_zero]; rfl)
            case hQ9 => exact fun _ _ _ h => h
            case hw9 => rfl
            case hy9 => (intro w' hSw; (try dsimp only at hSw); go_simp; all_goals with_reducible rfl)
            try simp only [Act.put, List.setIfInBounds_toArray, List.set_cons_zero, List.set_cons_succ]
            refine wpAnyH_ready (rs := [11]) (by kernel_rfl) (by simp) ?_
            refine AllReadyH.cons rfl (fun K hK => ?_) AllReadyH.nil
            have hBk : Blk3 wq wr.heap.size 43 (.int .i64 0) (.string ⟨#[]⟩) (.slice none 0 0) := (Blk3.new wr.drew 43 (.int .i64 0) (.string ⟨#[]⟩) (.slice none 0 0)).keep hcq (fun h => h)
            obtain ⟨b0, b1, b2⟩ := hBk.cell
            have f0 := hBk.free 0
            have f1 := hBk.free 1
            have f2 := hBk.free 2
            have hBk := ((hBk.set0 (.int .i64 K1)).set1 (.string P)).set2 (.slice none 0 0)
            have hcq0 : Chg Never wr wq := And.left (by assumption)
            have hcA := ((hcq0.setCell (p := ⟨wr.heap.size, 0, none⟩) (.inl (Nat.le_refl _)) (.int .i64 K1)).setCell (p := ⟨wr.heap.size, 1, none⟩) (.inl (Nat.le_refl _)) (.string P)).setCell (p := ⟨wr.heap.size, 2, none⟩) (.inl (Nat.le_refl _)) (.slice none 0 0)
            go_simp
            refine hK.out _ _ ⟨hcA, hcA.cellNever c0, hcA.cellNever c1⟩ (fun hH => ?_)
            clear hK K
            try simp only [Act.put, List.setIfInBounds_toArray, List.set_cons_zero, List.set_cons_succ]
            refine' wpAnyH_take (i := 12) ?hi12 (by kernel_rfl) (by kernel_rfl) (by kernel_rfl) ?hQ12 (Or.inl ⟨?hw12, ?hy12⟩) (by assumption) ?_
            case hi12 => (simp only [List.getElem?_toArray, List.getElem?_cons_succ, List.getElem?_cons_zero]; rfl)
            case hQ12 => exact fun _ _ _ h => h
            case hw12 => rfl
            case hy12 => (intro w' hSw; (try dsimp only at hSw); go_simp; all_goals with_reducible rfl)
            try simp only [Act.put, List.setIfInBounds_toArray, List.set_cons_zero, List.set_cons_succ]
            refine wpAnyH_done (by kernel_rfl) ?_ _
            go_wp2_with fail
            go_meet
            exact ⟨_, K1, P, B, rfl, rfl, Nat.le_refl _, hcA, hHq, hBk⟩
        case rest =>
          obtain ⟨k, K, P, B, rfl, rfl, hk, hc, hH, hB3⟩ := hcut
          have hcc := hc.out
          rcases hH.out with ⟨rfl, hh⟩ | ⟨rfl, p, hh, hP⟩
          · clear hH hc hB3 hsub hrun c0 c1
            have hr : Hid (chgsL l = none) := cinv_head hI.out HD2.out hh
            go_wp2_with fail
            go_ret2
            exact ⟨_, by rw [hr.out]; rfl, hn.chg.trans hcc, by rw [hr.out]; exact rdv_nil _ _⟩
          · have HH := Lib.hid hh
            have hPz : P.size ≤ maxLen := by
              have := headed_len hh
              rw [hP, toB_size', ]
              rw [← Lib.size_eq, ← Lib.size_eq] at this
              unfold maxLen; omega
            have HP := Lib.hid hP
            have hkl := hB3.lt
            have hgc : Globs wc m := hg.never (hn.chg.trans hcc)
            have hrun : ∀ wx : World, (Instr.slice 62 (.slice (some ⟨g, off, none⟩) n capb) (some (.int .i64 2)) none none).run Tryd.prog wx = .ok (.slice sb (n - 2) (capb - 2)) wx := hrun
            clear hh hP hH hc c0 c1 zx zy
            go_wp2_with fail
            clear hrun
            go_loopw [0] (fun bv wx => ∃ (q : Nat) (vr : Value) (hs : List Hunk) (o d : Nat), i + 2 + q ≤ l.length ∧ Rdv w Never bv (l.drop (i + 2 + q)) ∧ RdrAt wx wc.heap.size wc.heap.size vr hs o d ∧ Chg Never wc wx ∧ Hid (RdB hs o d q) ∧ Hid (TakeInv (bytesL R2) (bytesL (l.drop (i + 2 + q))) hs o d)) (fun bv _ => sliceLenOf bv)
            case atStart => exact ⟨0, _, [], 0, 0, hil, hsub, RdrAt.new wc, (Chg.refl Never wc).alloc _, rdB_start, by rw [Nat.add_zero, HR2.out]; exact tinv_start _⟩
            case round =>
              clear hsub
              obtain ⟨q, vr, hs, o, d, hq, hb, hR, hcw, hB, hT⟩ := hrel
              rename World => wx
              obtain ⟨rb, rc, rfl, r1, r2, r3⟩ := rdv_slice hb
              unfold maxLen at r2
              have hdl : (l.drop (i + 2 + q)).length = l.length - (i + 2 + q) := List.length_drop
              have hbox := hR.box
              obtain ⟨va, vn, vc, rfl⟩ := own_isSlice hR.own
              obtain ⟨N, hN⟩ : ∃ N, (l.drop (i + 2 + q)).length = N := ⟨_, rfl⟩
              rw [hN] at hb r1 hdl ⊢
              have hNn : N < n := by have := HN.out; omega
              have HDQ : Hid ((bytesL l).drop (i + 2 + q) = bytesL (l.drop (i + 2 + q))) := bytesL_drop _ _
              have hcx : Chg Never wr wx := hcc.trans hcw
              cases hRR : l.drop (i + 2 + q) with
              | nil =>
                rw [hRR] at hN hT
                obtain rfl : N = 0 := by rw [← hN]; rfl
                clear hN r3 hdl
                by_cases hop : 0 < o ∨ 0 < d
                · have HO := Lib.hid (opn_true hop)
                  have hTk := Lib.hid (tinv_open hT.out hop)
                  clear hop hRR
                  go_wp2_with fail
                  refine (rd_open wc.heap.size (.slice va vn vc) o d _ hbox).mono ?_
                  rintro e w1 ⟨rfl, rfl⟩
                  rename World => wx
                  rw [HO.out]
                  have hr : Hid (chgsL l = none) := cinv_take hI.out HD2.out HH.out hTk.out
                  go_wp2_with fail
                  go_ret2
                  exact ⟨_, by rw [hr.out]; rfl, hn.chg.trans hcx, by rw [hr.out]; exact rdv_nil _ _⟩
                · have HO := Lib.hid (opn_false hop)
                  have hTk : Hid (takeU (bytesL R2) [] 0 0 = some (hs, (bytesL l).drop (i + 2 + q))) := by
                    rw [Hid, HDQ.out, hRR]
                    exact tinv_end hT.out hop (fun s r e => by cases e)
                  clear hop hRR
                  go_wp2_with fail
                  refine (rd_open wc.heap.size (.slice va vn vc) o d _ hbox).mono ?_
                  rintro e w1 ⟨rfl, rfl⟩
                  rename World => wx
                  rw [HO.out]
                  obtain ⟨x0, -, -⟩ := hbox.cell
                  have hBk : Blk3 wx k 43 (.int .i64 K) (.string P) (.slice none 0 0) := hB3.keep hcw (fun h => h)
                  obtain ⟨k0, k1, k2⟩ := hBk.cell
                  have kf := hBk.free 2
                  have hcS : Chg (fun b => b = k) wx (wx.setCell ⟨k, 2, none⟩ (.slice va vn vc)) := (Chg.refl (fun b => b = k) wx).setCell (p := ⟨k, 2, none⟩) (.inr rfl) _
                  have hcR : Chg Never wr (wx.setCell ⟨k, 2, none⟩ (.slice va vn vc)) := hcx.setCell (p := ⟨k, 2, none⟩) (.inl hk) _
                  obtain ⟨j0, j1, j2⟩ := (hBk.set2 (.slice va vn vc)).cell
                  have hnx := hn.never hcR
                  have hv : Rdv (wx.setCell ⟨k, 2, none⟩ (.slice va vn vc)) (Old wr.heap.size) (.slice va vn vc) hs := hR.rdv.keep hcS (fun b _ e => .inl (by rw [e]; exact hkl)) (fun b _ hb => .inl (Nat.lt_of_lt_of_le hb hcc.size))
                  have hy : Dat.rd (wx.setCell ⟨k, 2, none⟩ (.slice va vn vc)) (fun k => Never k ∨ (Value.slice oa on oc).ownBlock = some k) [.int .i64 K, .string P, .slice va vn vc] (⟨K, P, hs⟩ : Change) := ⟨_, rfl, hPz, hn.fresh hv⟩
                  have hLx : L.length ≤ 1000000000 := by omega
                  clear hBk hcS hcR hv
                  go_wp2_with (at_builtin; refine wpList_push (by rfl) _ _ 39 (by rfl) elemOk_change (O := Never) (l := L) (y := ⟨K, P, hs⟩) (by rfl) (by rfl) (by simp) hnx.own hy (fun _ h => h.elim) hLx ?_; intro v' w9 hown2 hc2 hk2; have hn2 := hnx.step1 hown2 hc2 hk2; clear hown2 hc2 hk2 hnx hy; obtain ⟨oa2, on2, oc2, rfl⟩ := own_isSlice hn2.own)
                  go_roundw
                  case rel => exact ⟨i + 2 + q, L ++ [⟨K, P, hs⟩], hq, hb, hn2, by rw [List.length_append]; simp only [List.length_cons, List.length_nil]; omega, by rw [HP.out]; exact cinv_step hI.out HD2.out HH.out hTk.out (by omega)⟩
                  case measure => exact hNn
              | cons s R3 =>
                have hcnd : Hid (TakeInv (bytesL R2) (s.data.toList :: bytesL R3) hs o d) := by have := hT; rw [hRR] at this; exact this
                have zs := HS.out s (List.mem_of_mem_drop (i := i + 2 + q) (by rw [hRR]; simp))
                have HD3 : Hid (l.drop (i + 2 + (q + 1)) = R3) := by
                  rw [Hid, show i + 2 + (q + 1) = i + 2 + q + 1 from rfl, ← List.drop_drop, hRR]; rfl
                obtain ⟨g2, off2, rfl, -, -, c0, -⟩ := elems_str r3 (i := 0) (x := s) (by rw [hRR]; rfl)
                simp only [Nat.add_zero] at c0
                have c0 := (hn.chg.trans hcx).cellNever c0
                obtain ⟨sb2, hrun, hsub⟩ := rdv_tail hb hN.symm (k := 1) (by rw [hRR]; simp)
                have hrun : ∀ wx : World, (Instr.slice 62 (.slice (some ⟨g2, off2, none⟩) N rc) (some (.int .i64 1)) none none).run Tryd.prog wx = .ok (.slice sb2 (N - 1) (rc - 1)) wx := hrun
                rw [List.drop_drop] at hsub
                have hN0 : 1 ≤ N := by rw [← hN, hRR]; simp
                have hNi : (0 : Int) < (N : Int) := by omega
                have hN6 : N ≤ 1000000 := by omega
                have hgx : Globs wx m := hgc.never hcw
                have hq2 : i + 2 + (q + 1) ≤ l.length := by omega
                clear r3
                by_cases hop : 0 < o ∨ 0 < d
                · have HO := Lib.hid (opn_true hop)
                  have hcd : Hid ((0 < o ∨ 0 < d) ∨ hunkHead s.data.toList = true) := .inl hop
                  clear hop hRR hN hdl
                  go_wp2_with fail
                  refine (rd_open wc.heap.size (.slice va vn vc) o d _ hbox).mono ?_
                  rintro e w1 ⟨rfl, rfl⟩
                  rename World => wx
                  rw [HO.out]
                  go_wp2_with fail
                  refine (reader_line wc.heap.size wc.heap.size (.slice va vn vc) hs o d s _ hR hB.out.ok zs ⟨by have := hB.out.on; omega, by have := hB.out.on; omega⟩ (by have := hB.out.len; omega) (fun h hh => by have := hB.out.marks h hh; omega) m hgx).mono ?_
                  rintro e wy ⟨hcy, hp⟩
                  have hcz : Chg Never wc wy := ((hcw.mono (O' := From wc.heap.size) (fun _ _ h => h.elim)).trans hcy).mono (O' := Never) (fun k hk h => Nat.not_lt_of_le h hk)
                  cases hrl : readLine hs o d s.data.toList with
                  | none =>
                    rw [hrl] at hp
                    subst hp
                    have hTk := Lib.hid (tinv_bad hcnd.out hcd.out hrl)
                    clear hrl hrun c0
                    have hr : Hid (chgsL l = none) := cinv_take hI.out HD2.out HH.out hTk.out
                    go_wp2_with fail
                    go_ret2
                    exact ⟨_, by rw [hr.out]; rfl, hn.chg.trans (hcc.trans hcz), by rw [hr.out]; exact rdv_nil _ _⟩
                  | some t =>
                    obtain ⟨hs', o', d'⟩ := t
                    rw [hrl] at hp
                    obtain ⟨rfl, vr', hR'⟩ := hp
                    have hT2 := Lib.hid (tinv_step hcnd.out hcd.out hrl)
                    have hB2 := Lib.hid (rdB_step hB.out hrl)
                    clear hrl c0
                    go_wp2_with fail
                    go_roundw
                    case rel => exact ⟨q + 1, vr', hs', o', d', hq2, hsub, hR', hcz, hB2, by rw [HD3.out]; exact hT2⟩
                    case measure => show N - 1 < N; omega
                · have HO := Lib.hid (opn_false hop)
                  have hpx : Lib.hasPrefix s.data.toList [64, 64] = hunkHead s.data.toList := rfl
                  cases hh : hunkHead s.data.toList with
                  | true =>
                    have HX := Lib.hid (hpx.trans hh)
                    have hcd : Hid ((0 < o ∨ 0 < d) ∨ hunkHead s.data.toList = true) := .inr hh
                    clear hop hRR hpx hh hN hdl
                    go_wp2_with fail
                    refine (rd_open wc.heap.size (.slice va vn vc) o d _ hbox).mono ?_
                    rintro e w1 ⟨rfl, rfl⟩
                    rename World => wx
                    rw [HO.out]
                    go_wp2_with fail
                    refine (Tryd.strings_HasPrefix s (toB [64, 64]) _).mono ?_
                    rintro e w1 ⟨rfl, rfl⟩
                    rename World => wx
                    rw [toB_data, HX.out]
                    go_wp2_with fail
                    refine (reader_line wc.heap.size wc.heap.size (.slice va vn vc) hs o d s _ hR hB.out.ok zs ⟨by have := hB.out.on; omega, by have := hB.out.on; omega⟩ (by have := hB.out.len; omega) (fun h hh => by have := hB.out.marks h hh; omega) m hgx).mono ?_
                    rintro e wy ⟨hcy, hp⟩
                    have hcz : Chg Never wc wy := ((hcw.mono (O' := From wc.heap.size) (fun _ _ h => h.elim)).trans hcy).mono (O' := Never) (fun k hk h => Nat.not_lt_of_le h hk)
                    cases hrl : readLine hs o d s.data.toList with
                    | none =>
                      rw [hrl] at hp
                      subst hp
                      have hTk := Lib.hid (tinv_bad hcnd.out hcd.out hrl)
                      clear hrl hrun c0
                      have hr : Hid (chgsL l = none) := cinv_take hI.out HD2.out HH.out hTk.out
                      go_wp2_with fail
                      go_ret2
                      exact ⟨_, by rw [hr.out]; rfl, hn.chg.trans (hcc.trans hcz), by rw [hr.out]; exact rdv_nil _ _⟩
                    | some t =>
                      obtain ⟨hs', o', d'⟩ := t
                      rw [hrl] at hp
                      obtain ⟨rfl, vr', hR'⟩ := hp
                      have hT2 := Lib.hid (tinv_step hcnd.out hcd.out hrl)
                      have hB2 := Lib.hid (rdB_step hB.out hrl)
                      clear hrl c0
                      go_wp2_with fail
                      go_roundw
                      case rel => exact ⟨q + 1, vr', hs', o', d', hq2, hsub, hR', hcz, hB2, by rw [HD3.out]; exact hT2⟩
                      case measure => show N - 1 < N; omega
                  | false =>
                    have HX := Lib.hid (hpx.trans hh)
                    have hTk : Hid (takeU (bytesL R2) [] 0 0 = some (hs, (bytesL l).drop (i + 2 + q))) := by
                      rw [Hid, HDQ.out, hRR]
                      exact tinv_end hcnd.out hop (fun s' r e => by injection e with e1 _; rw [← e1]; exact hh)
                    clear hop hRR hpx hh hN hdl
                    go_wp2_with fail
                    refine (rd_open wc.heap.size (.slice va vn vc) o d _ hbox).mono ?_
                    rintro e w1 ⟨rfl, rfl⟩
                    rename World => wx
                    rw [HO.out]
                    go_wp2_with fail
                    refine (Tryd.strings_HasPrefix s (toB [64, 64]) _).mono ?_
                    rintro e w1 ⟨rfl, rfl⟩
                    rename World => wx
                    rw [toB_data, HX.out]
                    go_wp2_with fail
                    refine (rd_open wc.heap.size (.slice va vn vc) o d _ hbox).mono ?_
                    rintro e w1 ⟨rfl, rfl⟩
                    rename World => wx
                    rw [HO.out]
                    obtain ⟨x0, -, -⟩ := hbox.cell
                    have hBk : Blk3 wx k 43 (.int .i64 K) (.string P) (.slice none 0 0) := hB3.keep hcw (fun h => h)
                    obtain ⟨k0, k1, k2⟩ := hBk.cell
                    have kf := hBk.free 2
                    have hcS : Chg (fun b => b = k) wx (wx.setCell ⟨k, 2, none⟩ (.slice va vn vc)) := (Chg.refl (fun b => b = k) wx).setCell (p := ⟨k, 2, none⟩) (.inr rfl) _
                    have hcR : Chg Never wr (wx.setCell ⟨k, 2, none⟩ (.slice va vn vc)) := hcx.setCell (p := ⟨k, 2, none⟩) (.inl hk) _
                    obtain ⟨j0, j1, j2⟩ := (hBk.set2 (.slice va vn vc)).cell
                    have hnx := hn.never hcR
                    have hv : Rdv (wx.setCell ⟨k, 2, none⟩ (.slice va vn vc)) (Old wr.heap.size) (.slice va vn vc) hs := hR.rdv.keep hcS (fun b _ e => .inl (by rw [e]; exact hkl)) (fun b _ hb => .inl (Nat.lt_of_lt_of_le hb hcc.size))
                    have hy : Dat.rd (wx.setCell ⟨k, 2, none⟩ (.slice va vn vc)) (fun k => Never k ∨ (Value.slice oa on oc).ownBlock = some k) [.int .i64 K, .string P, .slice va vn vc] (⟨K, P, hs⟩ : Change) := ⟨_, rfl, hPz, hn.fresh hv⟩
                    have hLx : L.length ≤ 1000000000 := by omega
                    clear hBk hcS hcR hv
                    go_wp2_with (at_builtin; refine wpList_push (by rfl) _ _ 39 (by rfl) elemOk_change (O := Never) (l := L) (y := ⟨K, P, hs⟩) (by rfl) (by rfl) (by simp) hnx.own hy (fun _ h => h.elim) hLx ?_; intro v' w9 hown2 hc2 hk2; have hn2 := hnx.step1 hown2 hc2 hk2; clear hown2 hc2 hk2 hnx hy; obtain ⟨oa2, on2, oc2, rfl⟩ := own_isSlice hn2.own)
                    go_roundw
                    case rel => exact ⟨i + 2 + q, L ++ [⟨K, P, hs⟩], hq, hb, hn2, by rw [List.length_append]; simp only [List.length_cons, List.length_nil]; omega, by rw [HP.out]; exact cinv_step hI.out HD2.out HH.out hTk.out (by omega)⟩
                    case measure => exact hNn
end Go.Proofs.YtnekhaacapdmfaaDoor
namespace Go.Proofs.YtnekhaacapdmfaaDoor
open Go.RowKit

theorem bytesL_toB (I : List (List UInt8)) : bytesL (I.map toB) = I := by
  unfold bytesL
  rw [List.map_map]
  have : ((fun x : ByteArray => x.data.toList) ∘ toB) = id := by funext x; exact toB_data x
  rw [this, List.map_id]
set_option maxHeartbeats 1000000 in
set_option maxRecDepth 100000 in
theorem gitparse_any (s : ByteArray) (w : World) (hs : s.size ≤ 100000000) (m : Int) (hg : Globs w m) :
    Calls Tryd.prog 20 #[.string s] w fun e w' => ∃ r, e = .returned (.tuple #[r, errV (parseG s.data.toList).2]) ∧ Chg Never w w' ∧ Rdv w' Never r (parseG s.data.toList).1 := by
  have hsz := Lib.size_eq s
  by_cases hl : 400000 < s.size
  · have HR : Hid (parseG s.data.toList = ([], 5)) := by unfold Hid parseG; rw [if_pos (by omega)]
    clear hsz
    go_enter Tryd.func20, Tryd.ntmps20
    go_wp2_with fail
    go_ret2
    exact ⟨_, by rw [HR.out]; rfl, Chg.refl _ _, by rw [HR.out]; exact rdv_nil _ _⟩
  · obtain ⟨I, z, hIz⟩ := last_of (parts_ne 10 s.data.toList)
    have hcnt := parts_count 10 s.data.toList
    have hpm := parts_mem 10 s.data.toList
    have HIZ := Lib.hid hIz
    have hdl : Hid ((parts 10 s.data.toList).dropLast = I) := by rw [Hid, hIz, List.dropLast_concat]
    have hgl : Hid ((parts 10 s.data.toList).getLast? = some z) := by rw [Hid, hIz]; simp
    have HSP : Hid (Lib.splitB ⟨#[10]⟩ 0 (Lib.countB s ⟨#[10]⟩) s = I.map toB ++ [toB z]) := by rw [Hid, splitB_parts, hIz, List.map_append]; rfl
    have HLEN : Hid (Lib.countB s ⟨#[10]⟩ + 1 = (I.map toB ++ [toB z]).length) := by
      have := Lib.splitB_all ⟨#[10]⟩ (by decide) 0 _ s rfl
      rw [Hid, ← this, HSP.out]
    have hIl : I.length ≤ 1000000 := by
      rw [hIz, List.length_append] at hcnt
      simp only [List.length_cons, List.length_nil] at hcnt
      omega
    have hIs : Hid (∀ x ∈ I.map toB ++ [toB z], x.size ≤ 1000000000) := by
      intro x hx
      have : ∃ y ∈ parts 10 s.data.toList, x = toB y := by
        rw [hIz]
        rcases List.mem_append.1 hx with hx | hx
        · obtain ⟨y, hy, rfl⟩ := List.mem_map.1 hx
          exact ⟨y, List.mem_append_left _ hy, rfl⟩
        · simp only [List.mem_cons, List.not_mem_nil, or_false] at hx
          exact ⟨z, by simp, hx⟩
      obtain ⟨y, hy, rfl⟩ := this
      have := hpm y hy
      rw [toB_size']
      omega
    have hbL := bytesL_toB I
    have HG : Hid (chgsL (I.map toB) = changesG (parts 10 s.data.toList).dropLast.length (parts 10 s.data.toList).dropLast) := by
      unfold Hid chgsL
      rw [hbL, hdl.out]
    have hLl : (I.map toB).length ≤ 1000000 := by rw [List.length_map]; exact hIl
    clear hIz hcnt hpm hbL hIl hdl
    generalize I.map toB = L at HSP HLEN hIs HG hLl
    have hl4 : s.data.toList.length ≤ 400000 := by omega
    have hl4 := Lib.hid hl4
    clear hsz
    go_enter Tryd.func20, Tryd.ntmps20
    go_wp2_with fail
    refine (Tryd.strings_Split s ⟨#[10]⟩ m _ (by omega) hg.ml (by decide)).mono ?_
    rintro e w2 ⟨rfl, rfl⟩
    rw [HSP.out, HLEN.out]
    have hA : Chg Never w (w.alloc (.cells ((L ++ [toB z]).map Value.string).toArray 9)) := (Chg.refl Never w).alloc _
    have hR0 : Rdv (w.alloc (.cells ((L ++ [toB z]).map Value.string).toArray 9)) Never (.slice (some ⟨w.heap.size, 0, none⟩) (L ++ [toB z]).length (L ++ [toB z]).length) (L ++ [toB z]) :=
      rdv_strs (heap_alloc_new _ _) (fun h => h) rfl (by rw [List.length_append]; simp only [List.length_cons, List.length_nil]; unfold maxLen; omega) (fun x hx => by have := hIs.out x hx; unfold maxLen; omega)
    generalize w.alloc (.cells ((L ++ [toB z]).map Value.string).toArray 9) = w3 at hR0 hA ⊢
    obtain ⟨sb, -, -, hrun, hsub⟩ := slice_g (P := Tryd.prog) (t := 62) (by kernel_rfl) size_str hR0 0 L.length (Nat.zero_le _) (by simp)
    obtain ⟨_, _, hq, -, -, hel⟩ := rdv_slice hR0
    simp only [Value.slice.injEq, true_and] at hq
    obtain ⟨rfl, rfl⟩ := hq
    obtain ⟨g, off, hq, -, -, cz, -⟩ := elems_str hel (i := L.length) (x := toB z) (by simp)
    simp only [Option.some.injEq, Addr.mk.injEq, and_true] at hq
    obtain ⟨rfl, rfl⟩ := hq
    rw [List.drop_zero, Nat.sub_zero, Nat.sub_zero, List.take_left] at hsub
    have hNL : (L ++ [toB z]).length = L.length + 1 := by simp
    rw [hNL] at hrun hsub ⊢
    rw [Nat.sub_zero, Nat.sub_zero] at hrun
    have hrun := fun (wx : World) => hrun (L.length : Nat) wx rfl rfl
    have sw : IntKind.i64.wrap (((L.length + 1 : Nat) : Int) - 1) = (L.length : Int) := by rw [show ((L.length + 1 : Nat) : Int) - 1 = (L.length : Int) by omega]; exact IntWalk.i64_in _ (by omega)
    have hCA := Lib.hid (changes_any L _ _ hsub hLl (fun x hx => hIs.out x (List.mem_append_left _ hx)) m (hg.never hA))
    have hmL : Hid (m = m) := rfl
    simp only [Nat.zero_add] at cz
    generalize L.length = n at hrun hCA sw cz hLl ⊢
    clear hel hR0 hNL hsub
    go_wp2_with fail
    refine hCA.out.mono ?_
    rintro e w4 ⟨r, rfl, hc4, hr4⟩
    have cz := hc4.cellNever cz
    have hc4 := hA.trans hc4
    clear hrun sw hCA hA
    cases hC : chgsL L with
    | none =>
      rw [hC] at HG
      have HR := Lib.hid (parseG_none HG.out.symm)
      rw [Option.isSome_none]
      clear hC hr4
      go_wp2_with fail
      go_ret2
      exact ⟨_, by rw [HR.out]; rfl, by first | exact hc4 | exact hc5, by rw [HR.out]; exact rdv_nil _ _⟩
    | some p =>
      rw [hC] at HG hr4
      rw [Option.getD_some] at hr4
      rw [Option.isSome_some]
      clear hC
      cases z with
      | cons c z =>
        have HR : Hid (parseG s.data.toList = ([], 5)) := parseG_last (by rw [hgl.out]; simp)
        have tz : (toB (c :: z)).toList = c :: z := by rw [Lib.toList_data, toB_data]
        clear hr4
        go_wp2_with fail
        go_ret2
        exact ⟨_, by rw [HR.out]; rfl, by first | exact hc4 | exact hc5, by rw [HR.out]; exact rdv_nil _ _⟩
      | nil =>
        have tz : (toB []).toList = [] := by rw [Lib.toList_data, toB_data]
        have HR0 := Lib.hid (parseG_some (s := s.data.toList) hl4.out HG.out.symm hgl.out)
        have hmc := hg.ml
        have hm4 := hc4.cellNever hmc
        clear hmc
        go_wp2_with fail
        refine (patch_check_any p r _ hr4 m hm4).mono ?_
        rintro e w5 ⟨rfl, hc5⟩
        have hr5 := hr4.never hc5
        have hc5 := hc4.trans hc5
        generalize (patchFault p).1 = at0
        by_cases hz : (patchFault p).2 = 0
        · have HR : Hid (parseG s.data.toList = (p, 0)) := by rw [Hid, HR0.out, if_neg (by rw [hz]; decide)]
          rw [hz, errV_zero]
          clear hz
          go_wp2_with fail
          go_ret2
          exact ⟨_, by rw [HR.out]; rfl, hc5, by rw [HR.out]; exact hr5⟩
        · have HR : Hid (parseG s.data.toList = ([], (patchFault p).2)) := by rw [Hid, HR0.out, if_pos hz]
          have HZ := Lib.hid hz
          rw [errV_pos hz]
          clear hz
          go_wp2_with fail
          go_ret2
          exact ⟨.slice none 0 0, by rw [HR.out]; show _ = Ending.returned (.tuple #[.slice none 0 0, errV (patchFault p).2]); rw [errV_pos HZ.out]; rfl, hc5, by rw [HR.out]; exact rdv_nil _ _⟩
end Go.Proofs.YtnekhaacapdmfaaDoor
namespace Go.Proofs.YtnekhaacapdmfaaDoor
open Go.RowKit

def makeA : Change := ⟨2, toB [97], []⟩
def makeT : List UInt8 := [45, 45, 45, 32, 47, 100, 101, 118, 47, 110, 117, 108, 108, 10, 43, 43, 43, 32, 98, 47, 97, 10]
theorem make_fault : (patchFault [makeA]).2 = 0 := by decide +kernel
theorem make_text : textG [makeA] = makeT := by decide +kernel
theorem rdv_make {w : World} {g : Nat} {e : TypeId} {c : Change} {v : Value} (h : w.heap[g]? = some (.cells #[.int .i64 c.what, .string c.path, v] e (0, 0))) (hz : c.path.size ≤ maxLen) (hv : Rdv w Never v c.hunks) : Rdv w Never (.slice (some ⟨g, 0, none⟩) 1 1) [c] :=
  rdv_lit (cs := [.int .i64 c.what, .string c.path, v]) h rfl (by decide) ⟨⟨v, rfl, hz, hv⟩, trivial⟩

set_option maxHeartbeats 2000000 in
set_option maxRecDepth 100000 in
theorem law_gitBack (p : List Change) (s : ByteArray) (v : Value) (w : World) (h : Rdv w Never v p) (hs : s.size ≤ 1048576) (m : Int) (_hm : w.cell? ⟨1, 0, none⟩ = some (.int .i64 m)) (hg : Globs w m) :
    Calls Tryd.prog 6 #[v, .string s] w fun e w' => e = .returned (.bool true) ∧ Chg Never w w' := by
  obtain ⟨a, cap, rfl, h1, h2, h3⟩ := rdv_slice h
  unfold maxLen at h2
  have n0 := heap_alloc_new w (.cells #[.int .i64 2, .string ⟨#[97]⟩, .slice none 0 0] 43)
  have q0 : Chg Never w (w.alloc (.cells #[.int .i64 2, .string ⟨#[97]⟩, .slice none 0 0] 43)) := (Chg.refl Never w).alloc _
  have r0 : Rdv (w.alloc (.cells #[.int .i64 2, .string ⟨#[97]⟩, .slice none 0 0] 43)) Never (.slice (some ⟨w.heap.size, 0, none⟩) 1 1) [makeA] := rdv_make n0 (by decide) (rdv_nil _ _)
  have HG : Hid (gitR [makeA] = toB makeT) := by unfold Hid gitR; rw [if_pos make_fault, make_text]
  have tf : ((toB makeT).toList == [45, 45, 45, 32, 47, 100, 101, 118, 47, 110, 117, 108, 108, 10, 43, 43, 43, 32, 98, 47, 97, 10]) = true := by rw [Lib.toList_data, toB_data]; rfl
  clear n0
  go_enter Tryd.func6, Tryd.ntmps6
  go_wp2_with fail
  (with_reducible refine (gitprint_any [makeA] _ _ r0 m (q0.cellNever hg.ml)).mono ?_)
  rintro e w1 ⟨rfl, hc1⟩
  rw [HG.out, make_fault, errV_zero]
  have hw := q0.trans hc1
  go_wp2_with fail
  refine (gitparse_any s _ (by omega) m (hg.never hw)).mono ?_
  rintro e w2 ⟨r2, rfl, hc2, hr2⟩
  have hw := hw.trans hc2
  clear hc2 hc1 q0 r0 tf
  cases hpg : parseG s.data.toList with
  | mk X k =>
    rw [hpg] at hr2
    simp only at hr2 ⊢
    by_cases hk : k = 0
    · subst hk
      obtain ⟨e1, e2⟩ := git_some hpg
      have HX : Hid (gitR X = s) := by
        unfold Hid gitR
        rw [if_pos e2, e1]
        rfl
      have tss : (s.toList == s.toList) = true := by simp
      have E2 := Lib.hid e2
      rw [errV_zero]
      clear hpg e1 e2
      go_wp2_with fail
      refine (gitprint_any X _ _ hr2 m (hw.cellNever hg.ml)).mono ?_
      rintro e w3 ⟨rfl, hc3⟩
      have hw := hw.trans hc3
      rw [HX.out, E2.out, errV_zero]
      clear hc3 hr2
      go_wp2_with fail
      refine (gitprint_any p _ _ (h.never hw) m (hw.cellNever hg.ml)).mono ?_
      rintro e w5 ⟨rfl, hc5⟩
      have hw := hw.trans hc5
      clear hc5
      by_cases zp : (patchFault p).2 = 0
      · obtain ⟨p16, pall⟩ := patch_each zp
        obtain ⟨-, hTL⟩ := changes_ok p pall
        have HB := Lib.hid (git_back zp)
        have HT : Hid ((gitR p).data.toList = textG p) := by unfold Hid gitR; rw [if_pos zp, toB_data]
        have hTz : (gitR p).size ≤ 100000000 := by rw [Lib.size_eq, HT.out]; omega
        have hpp := gitparse_any (gitR p) _ hTz m (hg.never hw)
        rw [HT.out, HB.out] at hpp
        have HPP := Lib.hid hpp
        rw [zp, errV_zero]
        generalize gitR p = T at hTz HPP HT ⊢
        clear zp pall hTL hpp
        go_wp2_with fail
        refine HPP.out.mono ?_
        rintro e w6 ⟨r6, rfl, hc6, hr6⟩
        have hw := hw.trans hc6
        rw [errV_zero]
        clear HPP
        go_wp2_with fail
        refine (patches_any p p _ _ _ hr6 (h.never hw)).mono ?_
        rintro e w7 ⟨rfl, hc7⟩
        rw [decide_eq_true rfl]
        go_wp2_with fail
        go_ret
        exact ⟨rfl, hw.trans hc7⟩
      · rw [errV_pos zp]
        clear zp
        go_wp2_with fail
        go_ret
        exact ⟨rfl, hw⟩
    · rw [errV_pos hk]
      clear hpg hk hr2
      go_wp2_with fail
      refine (gitprint_any p _ _ (h.never hw) m (hw.cellNever hg.ml)).mono ?_
      rintro e w5 ⟨rfl, hc5⟩
      have hw := hw.trans hc5
      clear hc5
      by_cases zp : (patchFault p).2 = 0
      · obtain ⟨p16, pall⟩ := patch_each zp
        obtain ⟨-, hTL⟩ := changes_ok p pall
        have HB := Lib.hid (git_back zp)
        have HT : Hid ((gitR p).data.toList = textG p) := by unfold Hid gitR; rw [if_pos zp, toB_data]
        have hTz : (gitR p).size ≤ 100000000 := by rw [Lib.size_eq, HT.out]; omega
        have hpp := gitparse_any (gitR p) _ hTz m (hg.never hw)
        rw [HT.out, HB.out] at hpp
        have HPP := Lib.hid hpp
        rw [zp, errV_zero]
        generalize gitR p = T at hTz HPP HT ⊢
        clear zp pall hTL hpp
        go_wp2_with fail
        refine HPP.out.mono ?_
        rintro e w6 ⟨r6, rfl, hc6, hr6⟩
        have hw := hw.trans hc6
        rw [errV_zero]
        clear HPP
        go_wp2_with fail
        refine (patches_any p p _ _ _ hr6 (h.never hw)).mono ?_
        rintro e w7 ⟨rfl, hc7⟩
        rw [decide_eq_true rfl]
        go_wp2_with fail
        go_ret
        exact ⟨rfl, hw.trans hc7⟩
      · rw [errV_pos zp]
        clear zp
        go_wp2_with fail
        go_ret
        exact ⟨rfl, hw⟩
end Go.Proofs.YtnekhaacapdmfaaDoor
namespace Go.Proofs.YtnekhaacapdmfaaDoor.lawGitBack
open Go.ChangeShapes Go.WideShapes Go.ChangeAt Go.RowKit

set_option maxRecDepth 100000 in
theorem contract (H : Type) (enc : TypeId × Value → H) (W : World) (base : Nat) (args : Array Value) (ds gs : List (DataW H)) (before : List MemPlace)
    (hval : ∀ (j : Nat) t v, Tryd.f6.params[j]? = some t → args[j]? = some v → Value.okWide Tryd.prog W .any base t v)
    (hW : DataW.Whole enc Tryd.prog Tryd.f6.params.toList Rows.gitBackSpec.vars false W args.toList ds gs before) (hk : Rows.uptoSmall H (ds ++ gs) = true) (hL : laidMetH Tryd.prog Rows.gitBackUptoRow.laid W) (hS : W.ShapedOpen Tryd.prog) :
    Calls Tryd.prog 6 args W fun e W' => ∃ v, e = .returned v ∧ Rows.gitBackSpec.post enc Tryd.prog Tryd.f6 false true false false W args v W' := by
  have hL0 : laidMet Tryd.prog listedGB W := hL; have hgl : ∀ m, W.cell? ⟨1, 0, none⟩ = some (.int .i64 m) → Globs W m := fun m hm => globs_of (m := m) hm hL0 (by simp) (by simp) (by simp)
  obtain ⟨m, hm⟩ := maxlen_of hS
  have hW' := hW
  obtain ⟨p, q, hA0, hV, rfl, hfz, hnd⟩ := hW
  have hA : DataW.TrodAll enc Tryd.prog W 0 (fun _ => true) true Tryd.f6.params.toList args.toList ds p := hA0
  rw [Tryd.params6] at hA hval
  obtain ⟨v0, vs0, d0, ds0, p0, q0, hargs, rfl, rfl, h0, r0⟩ := trodAll_cons hA
  obtain ⟨v1, vs1, d1, ds1, p1, q1, rfl, rfl, rfl, h1, r1⟩ := trodAll_cons r0
  obtain ⟨rfl, rfl, rfl⟩ := trodAll_nil r1
  obtain rfl : args = #[v0, v1] := by cases args; simp_all
  obtain ⟨a0, len0, cap0, rfl⟩ := okWide_slice Tryd.underlying39 (hval 0 39 v0 rfl rfl)
  obtain ⟨u0, k0⟩ := h0
  obtain ⟨x0, hx0, hb0⟩ := opens_changes _ _ _ _ _ _ _ _ _ _ k0
  obtain ⟨x1, rfl, rfl, rfl, wx1⟩ := Go.ChangeMaps.open_string Tryd.underlying9 (hval 1 9 v1 rfl rfl) h1
  have hbk := small_of hk
  simp only [List.cons_append, List.nil_append, Rows.uptoBulkAll, Rows.uptoBulk, Array.length_toList] at hbk
  have hx1 : x1.size ≤ 1048576 := by show x1.data.size ≤ _; omega
  refine (law_gitBack x0 x1 _ W hx0 hx1 m hm (hgl m hm)).mono fun e W' he => ?_
  obtain ⟨he, hc⟩ := he
  subst he
  exact ⟨_, rfl, post_law hW' rfl rfl Tryd.underlying4 rfl laidOut (by decide +kernel) hc⟩

theorem reads (os : Os) {H : Type} (enc : TypeId × Value → H) : ∃ places, DataW.whole enc Tryd.prog ((laidWorldG os).forCall (fun _ _ => 0) ⟨#[], #[.slice none 0 0, .string ⟨#[]⟩], []⟩).memory Tryd.f6.params.toList Rows.gitBackSpec.vars false (#[.slice none 0 0, .string ⟨#[]⟩] : Array Value).toList 8 = some ([.nil, .lit (.string [])], [], places) :=
  ⟨[], by kernel_rfl⟩
set_option maxRecDepth 100000 in
theorem liftedUpto (os : Os) (started : os.Started) (H : Type) (enc : TypeId × Value → H) (F : Stop.Interp) :
    ReturnsInHanded {} Tryd.checked os 6 .any ((Rows.OpenSpec.upto Rows.gitBackSpec).preRow enc Tryd.prog Tryd.f6 Rows.gitBackUptoRow.domain false Rows.gitBackUptoRow.laid) (((Rows.OpenSpec.upto Rows.gitBackSpec).at F).post enc Tryd.prog Tryd.f6 false true false false) := by
  obtain ⟨places, hx⟩ := reads os enc
  refine returnsInHanded_of_row (C := Tryd.checked) (s := Rows.OpenSpec.upto Rows.gitBackSpec) own started (by kernel_rfl) Tryd.func6
    (witness_row_at (enc := enc) (C := Tryd.checked) false (laidWorldG os) #[.slice none 0 0, .string ⟨#[]⟩] rfl (by kernel_rfl) (by kernel_rfl) (by kernel_rfl)
      (OpenSpec.preRow_of_cond 8 hx (by kernel_rfl) (fun k hk => by cases hk; kernel_rfl) (by kernel_rfl) (laidWorldGB_met os _))) ?_
  intro W base args ds gs before hval hW _ hcond _ hL hS _
  exact contract H enc W base args ds gs before hval hW (hcond _ rfl) hL hS

theorem saidUpto : Rows.GitBackUptoSaid :=
  OpenClaim.holds_of_cond 6 Tryd.f6 rfl rfl rfl rfl rfl rfl rfl ⟨rfl, rfl, rfl, rfl, rfl⟩ rfl rfl rfl rfl rfl (by kernel_rfl) Tryd.func6 (by kernel_rfl)
    (of_decide_eq_true (by kernel_rfl)) (by unfold Func.isWrapper; first | (rw [if_pos (by decide +kernel)]; kernel_rfl) | (rw [if_neg (by decide +kernel)]; exact ⟨rfl, rfl⟩))
    (fun os started H enc _ F => by rw [OpenClaim.pre_eq_preRow]; exact liftedUpto os started H enc F)

theorem plain (f : FuncId) (fn : Func) (hf : Tryd.pinned.checked.prog.funcNamed "handstitch/handstitchlaw2.GitBack" = some f) (hfn : Tryd.pinned.checked.prog.funcs[f]? = some fn) :
    true = Tryd.pinned.checked.prog.looks [] ∧ ∀ (j : Nat) t, fn.params[j]? = some t → Tryd.pinned.checked.prog.wantsStandIn t = false := by
  obtain rfl : f = 6 := Option.some.inj ((show Tryd.prog.funcNamed "handstitch/handstitchlaw2.GitBack" = some 6 by kernel_rfl).symm.trans hf) |>.symm
  obtain rfl : fn = Tryd.f6 := (Option.some.inj (Tryd.func6.symm.trans hfn)).symm
  refine ⟨by kernel_rfl, fun j t ht => ?_⟩
  rw [Tryd.params6] at ht
  have hm := Array.mem_of_getElem? ht
  simp only [List.mem_toArray, List.mem_cons, List.not_mem_nil, or_false] at hm
  clear ht
  repeat' (first | (rcases hm with rfl | hm) | subst hm)
  all_goals exact (show Tryd.prog.wantsStandIn _ = false by kernel_rfl)

theorem cardUpto : Rows.GitBackUptoCardSaid :=
  Claim7.holds_tied_plain_at .later [] _ _ _ _ saidUpto (fun _ h => by cases h) (by kernel_rfl) (fun _ h => by cases h) gitBackUpto_row_tie rfl ⟨rfl, rfl⟩ (by kernel_rfl) rfl plain (by kernel_rfl)
end Go.Proofs.YtnekhaacapdmfaaDoor.lawGitBack
