/-
  FROM A LAW's WALK TO ITS STATEMENT: how the arguments read ('Opens'), and what is to be said behind the call ('post_law').
-/
import Derived.Test.YtcgjegjnodopoaaDoorRows
import Derived.Test.YtcgjegjnodopoaaDoorDat
import Derived.ProofKit
import Derived.OpenShut
import Derived.JoinedCond
import Derived.Deep.Slices
import Derived.Deep.Strs
namespace Go.Proofs.YtcgjegjnodopoaaDoor
open Go.ChangeShapes Go.WideShapes Go.ChangeAt Go.RowKit

theorem own : ownKnob Tryd.prog.godebug = none := by kernel_rfl
theorem laidOut : laidOutB Tryd.prog = true := by kernel_rfl

theorem trodAll_stays {H : Type} {enc : TypeId × Value → H} {P : Program} (hl : laidOutB P = true) {W W' : World} : ∀ (ts : List TypeId) (vs : List Value) (ds : List (DataW H)) (ps : List MemPlace),
    (∀ t ∈ ts, P.readableRec t = true ∧ t < P.types.size) → DataW.TrodAll enc P W 0 (fun _ => true) true ts vs ds ps → (∀ x ∈ ps, W.sameAt W' x) → (∀ x ∈ ps, x.block < W.heap.size) →
    DataW.TrodAll enc P W' 0 (fun b => decide (b < W.heap.size)) true ts vs ds ps
  | [], [], [], ps, _, h, _, _ => h
  | t :: ts, v :: vs, d :: ds, ps, ht, h, h1, h2 => by
    obtain ⟨p, q, hp, hq, rfl⟩ := h
    refine ⟨p, q, ?_, ?_, rfl⟩
    · exact WideElems.Trod_stays hl (ht t (List.mem_cons_self ..)).1 (ht t (List.mem_cons_self ..)).2 hp (fun x hx => h1 x (List.mem_append_left _ hx)) (fun x hx => by simpa using h2 x (List.mem_append_left _ hx))
    · exact trodAll_stays hl ts vs ds q (fun t' h' => ht t' (List.mem_cons_of_mem _ h')) hq (fun x hx => h1 x (List.mem_append_right _ hx)) (fun x hx => h2 x (List.mem_append_right _ hx))
  | [], [], _ :: _, _, _, h, _, _ => h.elim
  | [], _ :: _, _, _, _, h, _, _ => h.elim
  | _ :: _, [], _, _, _, h, _, _ => h.elim
  | _ :: _, _ :: _, [], _, _, h, _, _ => h.elim

/-- what a law's row says behind the call, where the walk answered true and changed nothing that was there -/
theorem post_law {H : Type} {enc : TypeId × Value → H} {P : Program} {f : Func} {s : ChangeSpec} {W W' : World} {args : Array Value} {ds gs : List (DataW H)} {before : List MemPlace} {tb : TypeId}
    (hW : DataW.Whole enc P f.params.toList s.vars false W args.toList ds gs before) (hvars : s.vars = []) (hres : f.resultTypes = #[tb]) (htb : P.underlying tb = some .bool)
    (hfn : s.fn H ds = { results := [.lit (.bool true)], args := ds }) (hl : laidOutB P = true) (hread : ∀ t ∈ f.params.toList, P.readableRec t = true ∧ t < P.types.size) (hc : Chg Never W W') :
    s.post enc P f false true false false W args (.bool true) W' := by
  have hlt := hW.lt
  have hb : Below W.heap.size W W' := hc.never
  obtain ⟨p, q, h1, h2, h3, h4, h5⟩ := id hW
  rw [hvars] at h2
  have hgs : gs = [] ∧ q = [] := by
    cases gs with
    | nil => exact ⟨rfl, h2⟩
    | cons g gs => exact h2.elim
  obtain ⟨rfl, rfl⟩ := hgs
  rw [List.append_nil] at h3
  subst h3
  refine ⟨ds, [], before, [], before, [], hW, ?_, ?_, ?_, ?_, fun h => by cases h⟩
  · rw [List.append_nil, hfn, hres]
    exact ⟨[], [], ⟨1, by simp [DataW.trod, htb, Value.cells]⟩, rfl, rfl⟩
  · rw [List.append_nil, hfn]
    exact trodAll_stays hl _ _ _ _ hread h1 (fun x hx => hb.same (hlt x hx)) hlt
  · rw [hvars, List.append_nil, hfn]; rfl
  · exact hb.frame _

/-! ### how arguments read -/
def Opens (P : Program) (t : TypeId) (α : Type) [Dat α] : Prop :=
  ∀ (H : Type) (enc : TypeId × Value → H) (w : World) (base : Nat) (spare : Nat → Bool) (held : Bool) (fuel : Nat) (cs : List Value) (d : DataW H) (ps : List MemPlace),
    DataW.trod enc P w base spare held fuel t cs = some (d, ps) → ∃ x : α, Dat.rd w Never cs x ∧ Dat.bulk x ≤ Rows.uptoBulk d

theorem opens_string {P : Program} {t : TypeId} (ht : P.underlying t = some .string) : Opens P t ByteArray := by
  intro H enc w base spare held fuel cs d ps h
  obtain ⟨s, rfl, hx, hs⟩ := DataW.trod_string ht h
  simp only [Prod.mk.injEq] at hx
  obtain ⟨rfl, rfl⟩ := hx
  refine ⟨s, ⟨rfl, hs⟩, ?_⟩
  show s.size + 1 ≤ Rows.uptoBulk (.lit (.string s.data.toList))
  simp only [Rows.uptoBulk]
  rw [Array.length_toList]
  exact Nat.le_refl _
theorem i64_of_wf {n : Int} (h : (Lit.int .i64 n).wf = true) : I64 n := bounds_i64 h
theorem u8_of_wf {n : Int} (h : (Lit.int .u8 n).wf = true) : 0 ≤ n ∧ n < 256 := by
  have := bounds_u8 h
  omega
theorem opens_int {P : Program} {t : TypeId} (ht : P.underlying t = some (.int .i64)) : Opens P t Int := by
  intro H enc w base spare held fuel cs d ps h
  obtain ⟨n, rfl, hx, hw⟩ := DataW.trod_int ht h
  simp only [Prod.mk.injEq] at hx
  obtain ⟨rfl, rfl⟩ := hx
  exact ⟨n, ⟨rfl, i64_of_wf hw⟩, by simp [Dat.bulk, Rows.uptoBulk]⟩
theorem opens_byte {P : Program} {t : TypeId} (ht : P.underlying t = some (.int .u8)) : Opens P t UInt8 := by
  intro H enc w base spare held fuel cs d ps h
  obtain ⟨n, rfl, hx, hw⟩ := DataW.trod_int ht h
  simp only [Prod.mk.injEq] at hx
  obtain ⟨rfl, rfl⟩ := hx
  have hn := u8_of_wf hw
  refine ⟨UInt8.ofNat n.toNat, ?_, by simp [Dat.bulk, Rows.uptoBulk]⟩
  show [Value.int .u8 n] = [Value.int .u8 _]
  have : ((UInt8.ofNat n.toNat).toNat : Int) = n := by
    rw [UInt8.toNat_ofNat']; omega
  rw [this]

theorem addr_add {a : Addr} (h : a.spot = none) (k : Nat) : a.add k = ⟨a.block, a.off + k, none⟩ := by
  cases a
  simp only at h
  subst h
  unfold Addr.add
  split <;> simp_all
theorem spot_of_cell {w : World} {a : Addr} {v : Value} (h : w.cell? a = some v) : a.spot = none := by
  unfold World.cell? at h
  split at h
  · by_cases hs : a.spot.isSome = true
    · simp [hs] at h
    · simpa using hs
  · simp at h

theorem opens_slice {P : Program} {t e : TypeId} {α : Type} [Dat α] (ht : P.underlying t = some (.slice e)) (hn : P.cellsOf e = Dat.n α) (he : Opens P e α) : Opens P t (List α) := by
  intro H enc w base spare held fuel cs d ps h
  rcases Deep.open_slice ht h with ⟨rfl, hx⟩ | ⟨a, len, cap, m, n, D, Pl, rfl, hb, hl, hm, hmm, hx, hel⟩
  · simp only [Prod.mk.injEq] at hx
    obtain ⟨rfl, rfl⟩ := hx
    exact ⟨[], ⟨none, 0, rfl, Nat.le_refl _, Nat.zero_le _, fun i x hi => by simp at hi⟩, by simp [Dat.bulk, Rows.uptoBulk]⟩
  · simp only [Prod.mk.injEq] at hx
    obtain ⟨rfl, rfl⟩ := hx
    have hlm : len ≤ m := by rw [hmm]; split <;> omega
    have hpos := Dat.pos (α := α)
    have key : ∀ k, k ≤ len → ∃ l : List α, l.length = k ∧ Elems w Never (some a) l ∧ (l.map Dat.bulk).sum ≤ Rows.uptoBulkAll ((List.range k).map D) := by
      intro k
      induction k with
      | zero => intro _; exact ⟨[], rfl, fun i x hi => by simp at hi, by simp [Rows.uptoBulkAll]⟩
      | succ k ih =>
        intro hk
        obtain ⟨l, h1, h2, h3⟩ := ih (by omega)
        obtain ⟨es, hes, htr⟩ := hel k (by omega)
        obtain ⟨x, hx, hbx⟩ := he H enc w base spare held n es (D k) (Pl k) htr
        obtain ⟨hbase, hlen, hcell⟩ := World.cells?_some hes
        refine ⟨l ++ [x], by simp [h1], ?_, ?_⟩
        · intro i y hy
          rcases Nat.lt_or_ge i l.length with hi | hi
          · rw [List.getElem?_append_left hi] at hy
            exact h2 i y hy
          · have e : i = k := by
              have := (List.getElem?_eq_some_iff.1 hy).1
              simp at this
              omega
            subst e
            rw [List.getElem?_append_right hi, h1] at hy
            simp at hy
            subst hy
            obtain ⟨es0, hes0, _⟩ := hel 0 (by omega)
            obtain ⟨_, hlen0, hcell0⟩ := World.cells?_some hes0
            have hsp : a.spot = none := by
              have := hcell0 0 (by rw [hn]; exact hpos)
              rw [List.getElem?_eq_getElem (by rw [hlen0, hn]; exact hpos)] at this
              have h' : w.cell? a = some (es0[0]'(by rw [hlen0, hn]; exact hpos)) := by simpa [Addr.add] using this
              exact spot_of_cell h'
            refine ⟨a.block, a.off, es, ?_, fun h => h, ?_, hx⟩
            · cases a; simp_all
            · intro j u hj
              have hjl := (List.getElem?_eq_some_iff.1 hj).1
              have := hcell j (by omega)
              rw [addr_add hsp, addr_add rfl, hn] at this
              rw [this, hj]
        · rw [List.range_succ, List.map_append, List.map_append, List.sum_append]
          have e1 : ∀ (p q : List (DataW H)), Rows.uptoBulkAll (p ++ q) = Rows.uptoBulkAll p + Rows.uptoBulkAll q := by
            intro p q
            induction p with
            | nil => simp [Rows.uptoBulkAll]
            | cons z p ih => simp only [List.cons_append, Rows.uptoBulkAll, ih]; omega
          rw [e1]
          simp only [List.map_cons, List.map_nil, List.sum_cons, List.sum_nil, Rows.uptoBulkAll]
          omega
    obtain ⟨l, h1, h2, h3⟩ := key len (Nat.le_refl _)
    refine ⟨l, ⟨some a, cap, by rw [h1], by omega, hm, h2⟩, ?_⟩
    simp only [Dat.bulk, Rows.uptoBulk]
    omega

theorem one_of_len {cs : List Value} (h : cs.length = 1) : ∃ c, cs = [c] := by
  match cs, h with
  | [c], _ => exact ⟨c, rfl⟩
theorem opens_mark {P : Program} {t : TypeId} {f0 f1 : Field} (ht : P.underlying t = some (.struct #[f0, f1])) (hc : P.cellsOf t = 2) (o0 : f0.offset = 0) (o1 : f1.offset = 1) (k0 : P.cellsOf f0.type = 1) (k1 : P.cellsOf f1.type = 1)
    (h0 : P.underlying f0.type = some (.int .u8)) (h1 : P.underlying f1.type = some .string) : Opens P t Mark := by
  intro H enc w base spare held fuel cs d ps h
  obtain ⟨y0, y1, n, hx, hl, e0, e1⟩ := trod_struct2 ht h
  rw [hc] at hl
  match cs, hl with
  | [c0, c1], _ =>
    rw [o0, k0] at e0
    rw [o1, k1] at e1
    obtain ⟨m, m1, m2, m3⟩ := DataW.trod_int h0 e0
    obtain ⟨s, s1, s2, s3⟩ := DataW.trod_string h1 e1
    simp at m1 s1
    subst m1 s1 m2 s2
    simp only [Prod.mk.injEq] at hx
    obtain ⟨rfl, rfl⟩ := hx
    have hm := u8_of_wf m3
    refine ⟨⟨m, s⟩, ⟨rfl, hm.1, hm.2, s3⟩, ?_⟩
    show s.size + 3 ≤ Rows.uptoBulk (.agg [.lit (.int .u8 m), .lit (.string s.data.toList)])
    simp only [Rows.uptoBulk, Rows.uptoBulkAll]
    rw [Array.length_toList]
    show s.size + 3 ≤ 1 + (s.size + 1 + 0) + 1
    omega
theorem opens_hunk {P : Program} {t : TypeId} {f0 f1 f2 : Field} (ht : P.underlying t = some (.struct #[f0, f1, f2])) (hc : P.cellsOf t = 3) (o0 : f0.offset = 0) (o1 : f1.offset = 1) (o2 : f2.offset = 2) (k0 : P.cellsOf f0.type = 1) (k1 : P.cellsOf f1.type = 1) (k2 : P.cellsOf f2.type = 1)
    (h0 : P.underlying f0.type = some (.int .i64)) (h1 : P.underlying f1.type = some (.int .i64)) (h2 : Opens P f2.type (List Mark)) : Opens P t Hunk := by
  intro H enc w base spare held fuel cs d ps h
  obtain ⟨y0, y1, y2, n, hx, hl, e0, e1, e2⟩ := Deep.trod_struct3 ht h
  rw [hc] at hl
  match cs, hl with
  | [c0, c1, c2], _ =>
    rw [o0, k0] at e0
    rw [o1, k1] at e1
    rw [o2, k2] at e2
    obtain ⟨m, m1, m2, m3⟩ := DataW.trod_int h0 e0
    obtain ⟨s, s1, s2, s3⟩ := DataW.trod_int h1 e1
    simp at m1 s1 e2
    subst m1 s1 m2 s2
    obtain ⟨l, hl1, hl2⟩ := h2 H enc w base spare held n [c2] y2.1 y2.2 e2
    simp only [Prod.mk.injEq] at hx
    obtain ⟨rfl, rfl⟩ := hx
    refine ⟨⟨m, s, l⟩, ⟨c2, rfl, hl1⟩, ?_⟩
    show Dat.bulk l + 3 ≤ Rows.uptoBulk (.agg [.lit (.int .i64 m), .lit (.int .i64 s), y2.1])
    simp only [Rows.uptoBulk, Rows.uptoBulkAll]
    omega

theorem opens_ints : Opens Tryd.prog 37 (List Int) := opens_slice Tryd.underlying37 (by kernel_rfl) (opens_int Tryd.underlying3)
theorem opens_rows : Opens Tryd.prog 36 (List (List Int)) := opens_slice Tryd.underlying36 (by kernel_rfl) opens_ints
theorem opens_bytes : Opens Tryd.prog 22 (List UInt8) := opens_slice Tryd.underlying22 (by kernel_rfl) (opens_byte Tryd.underlying5)

/-- the condition of the second form: the bulk of what comes in -/
theorem small_of {H : Type} {l : List (DataW H)} (hk : Rows.uptoSmall H l = true) : Rows.uptoBulkAll l ≤ 1048576 := of_decide_eq_true hk
end Go.Proofs.YtcgjegjnodopoaaDoor
