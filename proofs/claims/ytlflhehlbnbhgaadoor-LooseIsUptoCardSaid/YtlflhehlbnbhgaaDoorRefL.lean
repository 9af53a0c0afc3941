/-
  THE WALK of the document's LooseOf.
-/
import Derived.Test.YtlflhehlbnbhgaaDoorRefF
import Derived.Test.YtlflhehlbnbhgaaDoorLoose
import Derived.Test.YtlflhehlbnbhgaaDoorSpecLooseRef
namespace Go.Proofs.YtlflhehlbnbhgaaDoor
open Go.RowKit

/-- what the outer loop holds: the lines, what is left, the places -/
structure RSt (w0 wr : World) (le wh lv : Value) (st : Loose) (L : List Hunk) (P : List Int) : Prop where
  hc : Chg Never w0 wr
  lines : Rdv wr (fun j => OwnB le j ∨ OwnB wh j) lv st.lines
  left : Own 80 wr (OwnB wh) le L
  plc : Own 3 wr (OwnB le) wh P
  gl : ∀ k, OwnB le k → w0.heap.size ≤ k
  gw : ∀ k, OwnB wh k → w0.heap.size ≤ k
theorem RSt.never {w0 wr w' : World} {le wh lv : Value} {st : Loose} {L : List Hunk} {P : List Int} (h : RSt w0 wr le wh lv st L P) (hc : Chg Never wr w') : RSt w0 w' le wh lv st L P :=
  ⟨h.hc.trans hc, h.lines.never hc, h.left.never hc, h.plc.never hc, h.gl, h.gw⟩
theorem RSt.le_lt {w0 wr : World} {le wh lv : Value} {st : Loose} {L : List Hunk} {P : List Int} (h : RSt w0 wr le wh lv st L P) : ∀ k, OwnB le k → k < wr.heap.size := fun k hk => own_block_lt h.left k hk
theorem RSt.wh_lt {w0 wr : World} {le wh lv : Value} {st : Loose} {L : List Hunk} {P : List Int} (h : RSt w0 wr le wh lv st L P) : ∀ k, OwnB wh k → k < wr.heap.size := fun k hk => own_block_lt h.plc k hk
/-- other lines, made anew -/
theorem RSt.lines' {w0 wr w' : World} {le wh lv lv' : Value} {st st' : Loose} {L : List Hunk} {P : List Int} (h : RSt w0 wr le wh lv st L P) (hc : Chg Never wr w') (hl : Rdv w' (Old wr.heap.size) lv' st'.lines) : RSt w0 w' le wh lv' st' L P :=
  ⟨h.hc.trans hc, hl.sub (fun k _ hk => hk.elim (h.le_lt k) (h.wh_lt k)), h.left.never hc, h.plc.never hc, h.gl, h.gw⟩
theorem RSt.pushL {w0 wr w' : World} {le wh lv le' : Value} {st : Loose} {L L' : List Hunk} {P : List Int} (h : RSt w0 wr le wh lv st L P) (hown : Own 80 w' (OwnB wh) le' L') (hc : Chg (OwnB le) wr w')
    (hk : ∃ k, le'.ownBlock = some k ∧ (le.ownBlock = some k ∨ wr.heap.size ≤ k)) : RSt w0 w' le' wh lv st L' P := by
  obtain ⟨kb, hkb, hkb2⟩ := hk
  have hsub : ∀ k, k < wr.heap.size → OwnB le' k → OwnB le k := by
    intro k hlt hk
    unfold OwnB at *
    rw [hkb] at hk
    injection hk with hk
    subst hk
    rcases hkb2 with h | h
    · exact h
    · omega
  refine ⟨h.hc.trans' hc (fun i hi hk => absurd (h.gl i hk) (by omega)), h.lines.keep hc (fun _ _ hk => .inl hk) (fun k hlt hk => hk.elim (fun hk => .inl (hsub k hlt hk)) .inr), hown, h.plc.keep hc (fun _ _ hk => hk) hsub, ?_, h.gw⟩
  intro k hk
  unfold OwnB at hk
  rw [hkb] at hk
  injection hk with hk
  subst hk
  rcases hkb2 with h1 | h1
  · exact h.gl _ h1
  · exact Nat.le_trans h.hc.size h1
theorem RSt.pushP {w0 wr w' : World} {le wh lv wh' : Value} {st : Loose} {L : List Hunk} {P P' : List Int} (h : RSt w0 wr le wh lv st L P) (hown : Own 3 w' (OwnB le) wh' P') (hc : Chg (OwnB wh) wr w')
    (hk : ∃ k, wh'.ownBlock = some k ∧ (wh.ownBlock = some k ∨ wr.heap.size ≤ k)) : RSt w0 w' le wh' lv st L P' := by
  obtain ⟨kb, hkb, hkb2⟩ := hk
  have hsub : ∀ k, k < wr.heap.size → OwnB wh' k → OwnB wh k := by
    intro k hlt hk
    unfold OwnB at *
    rw [hkb] at hk
    injection hk with hk
    subst hk
    rcases hkb2 with h | h
    · exact h
    · omega
  refine ⟨h.hc.trans' hc (fun i hi hk => absurd (h.gw i hk) (by omega)), h.lines.keep hc (fun _ _ hk => .inr hk) (fun k hlt hk => hk.elim .inl (fun hk => .inr (hsub k hlt hk))), h.left.keep hc (fun _ _ hk => hk) hsub, hown, h.gl, ?_⟩
  intro k hk
  unfold OwnB at hk
  rw [hkb] at hk
  injection hk with hk
  subst hk
  rcases hkb2 with h1 | h1
  · exact h.gw _ h1
  · exact Nat.le_trans h.hc.size h1

/-- how far the loop over the context that is let go has come -/
def FSt (st : Loose) (x : Hunk) (fuzz far f : Nat) (dn : Option Int) (st' : Loose) : Prop :=
  match dn with
  | none => st' = st ∧ tryFrom st x far (fuzz + 1) 0 = tryFrom st x far (fuzz + 1 - f) f
  | some o => tryOf st x fuzz far = (st', some o)
theorem fst_start (st : Loose) (x : Hunk) (fuzz far : Nat) : FSt st x fuzz far 0 none st := ⟨rfl, rfl⟩
theorem FSt.full {st : Loose} {x : Hunk} {fuzz far f : Nat} (h : tryFrom st x far (fuzz + 1) 0 = tryFrom st x far (fuzz + 1 - f) f) (hr : roomB st (trimmedOf f x.marks) = false) : FSt st x fuzz far (f + 1) none st := by
  refine ⟨rfl, ?_⟩
  rw [room_same] at hr
  rw [h, tryFrom_full hr, tryFrom_full hr]
theorem FSt.miss {st : Loose} {x : Hunk} {fuzz far f : Nat} (hf : f ≤ fuzz) (h : tryFrom st x far (fuzz + 1) 0 = tryFrom st x far (fuzz + 1 - f) f) (hr : roomB st (trimmedOf f x.marks) = true) (ho : findOff st x f far = none) : FSt st x fuzz far (f + 1) none st := by
  refine ⟨rfl, ?_⟩
  rw [h, show fuzz + 1 - f = fuzz + 1 - (f + 1) + 1 by omega, tryFrom_next hr ho]
theorem FSt.hit {st : Loose} {x : Hunk} {fuzz far f : Nat} {o : Int} (hf : f ≤ fuzz) (h : tryFrom st x far (fuzz + 1) 0 = tryFrom st x far (fuzz + 1 - f) f) (hr : roomB st (trimmedOf f x.marks) = true) (ho : findOff st x f far = some o) : FSt st x fuzz far (f + 1) (some o) (doneAt st x f o) := by
  show tryOf st x fuzz far = _
  refine tryOf_eq_some ?_
  rw [h, show fuzz + 1 - f = fuzz + 1 - (f + 1) + 1 by omega, tryFrom_hit hr ho]
theorem FSt.out {st st' : Loose} {x : Hunk} {fuzz far : Nat} {dn : Option Int} (h : FSt st x fuzz far (fuzz + 1) dn st') : tryOf st x fuzz far = (st', dn) := by
  cases dn with
  | none =>
    obtain ⟨rfl, h⟩ := h
    rw [Nat.sub_self] at h
    exact tryOf_eq_none h
  | some o => exact h

/-- how far the context at the end is let go -/
structure TailInv (f : Nat) (s : List Mark) (hd t : Nat) : Prop where
  le : hd ≤ t
  top : t ≤ s.length
  eq : trimTail f (s.drop hd) = trimTail (f - (s.length - t)) ((s.drop hd).take (t - hd))
theorem tail_start {f : Nat} {s : List Mark} {hd : Nat} (h : hd ≤ s.length) : TailInv f s hd s.length :=
  ⟨h, Nat.le_refl _, by rw [Nat.sub_self, Nat.sub_zero, List.take_of_length_le (by rw [List.length_drop]; exact Nat.le_refl _)]⟩
theorem tail_snoc {s : List Mark} {hd t : Nat} {m : Mark} (h : hd < t) (hm : s[t - 1]? = some m) : (s.drop hd).take (t - hd) = (s.drop hd).take (t - 1 - hd) ++ [m] := by
  rw [show t - hd = t - 1 - hd + 1 by omega, List.take_add_one, List.getElem?_drop, show hd + (t - 1 - hd) = t - 1 by omega, hm]
  rfl
theorem TailInv.step {f : Nat} {s : List Mark} {hd t : Nat} {m : Mark} (h : TailInv f s hd t) (h1 : hd < t) (h2 : s.length - t < f) (hm : s[t - 1]? = some m) (hs : m.sign = 32) : TailInv f s hd (t - 1) := by
  refine ⟨by omega, by have := h.top; omega, ?_⟩
  rw [h.eq, tail_snoc h1 hm, show f - (s.length - t) = f - (s.length - (t - 1)) + 1 by have := h.top; omega, trimTail_snoc, if_pos hs]
theorem TailInv.sign {f : Nat} {s : List Mark} {hd t : Nat} {m : Mark} (h : TailInv f s hd t) (h1 : hd < t) (h2 : s.length - t < f) (hm : s[t - 1]? = some m) (hs : m.sign ≠ 32) : trimTail f (s.drop hd) = (s.drop hd).take (t - hd) := by
  rw [h.eq, tail_snoc h1 hm, show f - (s.length - t) = f - (s.length - (t - 1)) + 1 by have := h.top; omega, trimTail_snoc, if_neg hs]
theorem TailInv.many {f : Nat} {s : List Mark} {hd t : Nat} (h : TailInv f s hd t) (h2 : ¬ s.length - t < f) : trimTail f (s.drop hd) = (s.drop hd).take (t - hd) := by
  rw [h.eq, show f - (s.length - t) = 0 by omega, trimTail_zero]
theorem TailInv.none {f : Nat} {s : List Mark} {hd t : Nat} (h : TailInv f s hd t) (h1 : ¬ hd < t) : trimTail f (s.drop hd) = (s.drop hd).take (t - hd) := by
  rw [h.eq, show t - hd = 0 by omega, List.take_zero, trimTail_nil]

/-- how far the places have been tried -/
def DSt (st : Loose) (x : Hunk) (far f d : Nat) (dn : Option Int) (st' : Loose) : Prop :=
  match dn with
  | none => st' = st ∧ ∀ (q : Nat) (y : Int), q < d → (refOffs far)[q]? = some y → okAt st (wantedAt st x f + y) (oldOf (trimmedOf f x.marks)) = false
  | some o => findOff st x f far = some o ∧ st' = doneAt st x f o
theorem dst_start (st : Loose) (x : Hunk) (far f : Nat) : DSt st x far f 0 none st := ⟨rfl, fun q _ h => absurd h (Nat.not_lt_zero q)⟩
theorem DSt.miss {st : Loose} {x : Hunk} {far f d : Nat} (h : DSt st x far f d none st) (hd : d ≤ 2 * far) (ho : okAt st (wantedAt st x f + offOf d) (oldOf (trimmedOf f x.marks)) = false) : DSt st x far f (d + 1) none st := by
  refine ⟨rfl, fun q y hq hy => ?_⟩
  by_cases e : q = d
  · subst e
    rw [refOffs_get far q hd] at hy
    injection hy with hy
    rw [← hy]; exact ho
  · exact h.2 q y (by omega) hy
theorem DSt.hit {st : Loose} {x : Hunk} {far f d : Nat} (h : DSt st x far f d none st) (hd : d ≤ 2 * far) (ho : okAt st (wantedAt st x f + offOf d) (oldOf (trimmedOf f x.marks)) = true) : DSt st x far f (d + 1) (some (offOf d)) (doneAt st x f (offOf d)) := by
  refine ⟨?_, rfl⟩
  rw [findOff_ref]
  exact find_at (k := d) (fun q y hq hy => h.2 q y hq hy) (refOffs_get far d hd) ho
theorem DSt.none_end {st st' : Loose} {x : Hunk} {far f : Nat} (h : DSt st x far f (2 * far + 1) none st') : findOff st x f far = none := by
  rw [findOff_ref]
  refine find_take_none (fun q y hy => h.2 q y ?_ hy)
  have := (List.getElem?_eq_some_iff.1 hy).1
  rw [refOffs_length] at this
  exact this
theorem offOf_bound (d far : Nat) (h : d ≤ 2 * far) : -(far : Int) ≤ offOf d ∧ offOf d ≤ far := by
  unfold offOf
  split <;> omega
end Go.Proofs.YtlflhehlbnbhgaaDoor
