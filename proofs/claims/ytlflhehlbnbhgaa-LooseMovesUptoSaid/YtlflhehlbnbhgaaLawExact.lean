/-
  THE LAW LooseExact, walked.
-/
import Derived.Test.YtlflhehlbnbhgaaLoose
import Derived.Test.YtlflhehlbnbhgaaNewOf
import Derived.Test.YtlflhehlbnbhgaaLawMakes
namespace Go.Proofs.Ytlflhehlbnbhgaa
open Go.RowKit

theorem loose_x : looseFault [sX] [⟨1, 1, [⟨45, sX⟩]⟩] 0 1 = 0 ∧ looseR [sX] [⟨1, 1, [⟨45, sX⟩]⟩] 0 1 = ([], [], [-1]) := by decide +kernel
theorem elems_int {w : World} {O : Nat → Prop} {a : Option Addr} {l : List Int} (h : Elems w O a l) {i : Nat} {x : Int} (hx : l[i]? = some x) :
    ∃ b off, a = some ⟨b, off, none⟩ ∧ ¬ O b ∧ w.cell? ⟨b, off + i, none⟩ = some (.int .i64 x) ∧ I64 x := by
  obtain ⟨b, off, es, ha, hb, hc, rfl, hr⟩ := h i x hx
  refine ⟨b, off, ha, hb, ?_, hr⟩
  have := hc 0 (.int .i64 x) rfl
  have e : off + i * Dat.n Int + 0 = off + i := by show off + i * 1 + 0 = off + i; omega
  rwa [e] at this

def sumNew (l : List Hunk) : Nat := (l.map fun h => newN h.marks).sum
theorem sumNew_take {l : List Hunk} {k : Nat} {x : Hunk} (hx : l[k]? = some x) : sumNew (l.take (k + 1)) = sumNew (l.take k) + newN x.marks := by
  rw [List.take_add_one, hx]; simp [sumNew]
theorem sumNew_le (l : List Hunk) (h : ∀ x ∈ l, newN x.marks ≤ 120) : sumNew l ≤ 120 * l.length := by
  induction l with
  | nil => simp [sumNew]
  | cons x r ih =>
    have h1 := h x (List.mem_cons_self ..)
    have h2 := ih (fun y hy => h y (List.mem_cons_of_mem _ hy))
    simp only [sumNew, List.map_cons, List.sum_cons, List.length_cons] at h2 ⊢
    omega
/-- how many are left of the first ones -/
def kAt (l : List Hunk) (P : List Int) (i : Nat) : Nat := (leftBy (l.take i) (P.take i)).length
theorem kAt_zero (l : List Hunk) (P : List Int) : kAt l P 0 = 0 := by simp [kAt, leftBy]
theorem kAt_cons (h : Hunk) (r : List Hunk) (w : Int) (q : List Int) (i : Nat) : kAt (h :: r) (w :: q) (i + 1) = (if w = -1000 then 1 else 0) + kAt r q i := by
  unfold kAt
  rw [List.take_succ_cons, List.take_succ_cons, leftBy]
  split
  · simp; omega
  · simp
theorem kAt_step : ∀ (i : Nat) (l : List Hunk) (P : List Int) (h : Hunk) (w : Int), l[i]? = some h → P[i]? = some w →
    (w = -1000 → (leftBy l P)[kAt l P i]? = some h ∧ kAt l P (i + 1) = kAt l P i + 1) ∧ (w ≠ -1000 → kAt l P (i + 1) = kAt l P i)
  | 0, x :: r, y :: q, h, w, h1, h2 => by
    simp only [List.getElem?_cons_zero, Option.some.injEq] at h1 h2
    subst h1 h2
    rw [kAt_cons, kAt_zero, kAt_zero, leftBy]
    constructor
    · intro e; rw [if_pos e, if_pos e]; simp
    · intro e; rw [if_neg e]
  | i + 1, x :: r, y :: q, h, w, h1, h2 => by
    simp only [List.getElem?_cons_succ] at h1 h2
    obtain ⟨j1, j2⟩ := kAt_step i r q h w h1 h2
    rw [kAt_cons, kAt_cons, leftBy]
    constructor
    · intro e
      obtain ⟨j3, j4⟩ := j1 e
      by_cases hy : y = -1000
      · rw [if_pos hy, if_pos hy, j4]
        refine ⟨?_, by omega⟩
        rw [Nat.add_comm, List.getElem?_cons_succ]
        exact j3
      · rw [if_neg hy, if_neg hy, j4, Nat.zero_add, Nat.zero_add]
        exact ⟨j3, rfl⟩
    · intro e
      rw [j2 e]
  | _, [], _, _, _, h1, _ => by simp at h1
  | _, _ :: _, [], _, _, _, h2 => by simp at h2
theorem kAt_all {l : List Hunk} {P : List Int} (h : P.length = l.length) : kAt l P l.length = (leftBy l P).length := by
  unfold kAt
  rw [List.take_length, ← h, List.take_length]

/-- all that the law asks of what Loose answers -/
theorem looseOf_facts {a : List ByteArray} {l : List Hunk} {fuzz far : Int} (h : looseFault a l fuzz far = 0) : linesFault a = 0 ∧ hunksFault l = (0, 0) ∧ 0 ≤ fuzz ∧ fuzz ≤ 3 ∧ 0 ≤ far ∧ far ≤ 60 ∧
    (looseOf a l fuzz far).2.2.length = l.length ∧ (looseOf a l fuzz far).2.1 = leftBy l (looseOf a l fuzz far).2.2 ∧
    (∀ x ∈ (looseOf a l fuzz far).2.2, x = -1000 ∨ (-far ≤ x ∧ x ≤ far)) ∧ ((looseOf a l fuzz far).2.1.length = l.length → (looseOf a l fuzz far).1 = a) := by
  unfold looseFault at h
  by_cases h1 : linesFault a ≠ 0
  · rw [if_pos h1] at h; exact absurd h h1
  · rw [if_neg h1] at h
    by_cases h2 : (hunksFault l).2 ≠ 0
    · rw [if_pos h2] at h; exact absurd h h2
    · rw [if_neg h2] at h
      by_cases h3 : fuzz < 0 ∨ 3 < fuzz ∨ far < 0 ∨ 60 < far
      · rw [if_pos h3] at h; cases h
      · obtain ⟨i1, i2, i3, i4, i5⟩ := looseGo_facts fuzz.toNat far.toNat (by omega) l ⟨a, 0, 0⟩
        refine ⟨by simpa using h1, hunksFault_first (by simpa using h2), by omega, by omega, by omega, by omega, i1, i2, ?_, ?_⟩
        · intro x hx
          rcases i3 x hx with h | h
          · exact .inl h
          · exact .inr (by omega)
        · intro e
          unfold looseOf
          simp only [i5 e]
theorem exact_facts {a y : List ByteArray} {l : List Hunk} {k : Nat} {fuzz far : Int} (hs : strict a l = (y, k, 0)) (hroom : a.length + sumNew l ≤ 60) : looseOf a l fuzz far = (y, [], l.map fun _ => 0) := by
  obtain ⟨_, z2, z3⟩ := strict_zero hs
  obtain ⟨fr, out, d1, d2, _, _⟩ := strictGo_inv a l 0 0 [] y k z3
  have hok := (hunksFault_zero (l := l) (by rw [z2])).2
  have := loose_exact fuzz.toNat far.toNat a l 0 fr [] out 0 (Nat.zero_le _) (by simp) hok d1 (by simpa [sumNew] using hroom)
  unfold looseOf
  simp only [List.nil_append, List.drop_zero, List.length_nil, Int.natCast_zero] at this
  simp only [this, d2]

theorem heap_three (w : World) (x y z : Obj) : (((w.alloc x).alloc y).alloc z).heap[w.heap.size]? = some x ∧ (((w.alloc x).alloc y).alloc z).heap[w.heap.size + 1]? = some y ∧ (((w.alloc x).alloc y).alloc z).heap[w.heap.size + 1 + 1]? = some z := by
  obtain ⟨h1, h2⟩ := heap_pair w x y
  refine ⟨?_, ?_, ?_⟩
  · rw [Below.heap_alloc _ _ _ (by simp; omega)]; exact h1
  · rw [Below.heap_alloc _ _ _ (by simp)]; exact h2
  · have := heap_alloc_new ((w.alloc x).alloc y) z
    rwa [World.size_alloc, World.size_alloc] at this

theorem leftBy_le : ∀ (l : List Hunk) (P : List Int), (leftBy l P).length ≤ l.length
  | [], [] => by simp [leftBy]
  | [], _ :: _ => by simp [leftBy]
  | _ :: _, [] => by simp [leftBy]
  | h :: r, w :: q => by
    have := leftBy_le r q
    simp only [leftBy]
    split
    · simp; exact this
    · simp; omega

set_option maxHeartbeats 4000000 in
set_option maxRecDepth 100000 in
theorem exact_bad (a : List ByteArray) (l : List Hunk) (fuzz far : Int) (va vl : Value) (w : World) (ha : Rdv w Never va a) (hl : Rdv w Never vl l)
    (HZ : Hid (looseFault a l fuzz far ≠ 0)) :
    Calls Try.prog 4 #[va, vl, .int .i64 fuzz, .int .i64 far] w fun e w' => e = .returned (.bool true) ∧ Chg Never w w' := by
  go_enter Try.func4, Try.ntmps4
  go_wp2_with fail
  refine (loose_any [sX] [⟨1, 1, [⟨45, sX⟩]⟩] 0 1 _ _ _ (rdv_lit (e := 9) (cs := [.string sX]) (heap_three _ _ _ _).2.2 rfl (by decide) ⟨⟨rfl, by decide⟩, trivial⟩) (rdv_lit (e := 31) (cs := [.int .i64 1, .int .i64 1, .slice (some ⟨w.heap.size, 0, none⟩) 1 1]) (heap_three _ _ _ _).2.1 rfl (by decide)
    ⟨⟨_, rfl, rdv_lit (e := 29) (cs := [.int .u8 45, .string sX]) (heap_three _ _ _ _).1 rfl (by decide) ⟨rd_mark _ _ 45 sX (by decide) (by decide) (by decide), trivial⟩⟩, trivial⟩)).mono ?_
  rintro e w1 ⟨r1, r2, r3, rfl, hc1, hr1, hr2, hr3⟩
  have hw : Chg Never w w1 := ((((Chg.refl Never w).alloc _).alloc _).alloc _).trans hc1
  clear hc1
  rw [loose_x.1, errV_zero]
  rw [loose_x.2] at hr1 hr2 hr3
  obtain ⟨a1, c1, rfl, _, _, _⟩ := rdv_slice hr1
  obtain ⟨a2, c2, rfl, _, _, _⟩ := rdv_slice hr2
  obtain ⟨a3, c3, rfl, _, _, hel⟩ := rdv_slice hr3
  obtain ⟨fb, fo, rfl, _, f0, _⟩ := elems_int hel (i := 0) rfl
  simp only [Nat.add_zero] at f0
  clear hr1 hr2 hr3 hel
  go_wp2_with fail
  clear f0
  refine (loose_any a l fuzz far _ _ _ (ha.never hw) (hl.never hw)).mono ?_
  rintro e w2 ⟨r4, r5, r6, rfl, hc2, hr4, hr5, hr6⟩
  have hw := hw.trans hc2
  have hr4 := hr4.sub (O' := Never) (fun _ _ h => h.elim)
  have hr5 := hr5.sub (O' := Never) (fun _ _ h => h.elim)
  have hr6 := hr6.sub (O' := Never) (fun _ _ h => h.elim)
  clear hc2
  rw [errV_pos HZ.out]
  go_wp2_with fail
  go_ret
  exact ⟨rfl, hw⟩

set_option maxHeartbeats 4000000 in
set_option maxRecDepth 100000 in
theorem exact_clash (a : List ByteArray) (l : List Hunk) (fuzz far : Int) (va vl : Value) (w : World) (ha : Rdv w Never va a) (hl : Rdv w Never vl l)
    (HZ : Hid (looseFault a l fuzz far = 0)) (HS : Hid ((strict a l).2.2 ≠ 0)) :
    Calls Try.prog 4 #[va, vl, .int .i64 fuzz, .int .i64 far] w fun e w' => e = .returned (.bool true) ∧ Chg Never w w' := by
  obtain ⟨z1, z2, z3, z4, z5, z6, z7, z8, z9, z10⟩ := looseOf_facts HZ.out
  have HR : Hid (looseR a l fuzz far = looseOf a l fuzz far) := if_pos HZ.out
  have hla := linesFault_len z1
  obtain ⟨hl60, hok⟩ := hunksFault_zero (l := l) (by rw [z2])
  have hmem := hOk_mem _ _ _ hok
  have hn120 : ∀ x ∈ l, newN x.marks ≤ 120 := fun x hx => Nat.le_trans (newN_le _) (scriptFault_len (hmem x hx))
  have HPL := Lib.hid z7
  have HLB := Lib.hid z8
  have HSAME := Lib.hid z10
  clear z1 z2 z7 z8 z10 hok
  go_enter Try.func4, Try.ntmps4
  go_wp2_with fail
  refine (loose_any [sX] [⟨1, 1, [⟨45, sX⟩]⟩] 0 1 _ _ _ (rdv_lit (e := 9) (cs := [.string sX]) (heap_three _ _ _ _).2.2 rfl (by decide) ⟨⟨rfl, by decide⟩, trivial⟩) (rdv_lit (e := 31) (cs := [.int .i64 1, .int .i64 1, .slice (some ⟨w.heap.size, 0, none⟩) 1 1]) (heap_three _ _ _ _).2.1 rfl (by decide)
    ⟨⟨_, rfl, rdv_lit (e := 29) (cs := [.int .u8 45, .string sX]) (heap_three _ _ _ _).1 rfl (by decide) ⟨rd_mark _ _ 45 sX (by decide) (by decide) (by decide), trivial⟩⟩, trivial⟩)).mono ?_
  rintro e w1 ⟨r1, r2, r3, rfl, hc1, hr1, hr2, hr3⟩
  have hw : Chg Never w w1 := ((((Chg.refl Never w).alloc _).alloc _).alloc _).trans hc1
  clear hc1
  rw [loose_x.1, errV_zero]
  rw [loose_x.2] at hr1 hr2 hr3
  obtain ⟨a1, c1, rfl, _, _, _⟩ := rdv_slice hr1
  obtain ⟨a2, c2, rfl, _, _, _⟩ := rdv_slice hr2
  obtain ⟨a3, c3, rfl, _, _, hel⟩ := rdv_slice hr3
  obtain ⟨fb, fo, rfl, _, f0, _⟩ := elems_int hel (i := 0) rfl
  simp only [Nat.add_zero] at f0
  clear hr1 hr2 hr3 hel
  go_wp2_with fail
  clear f0
  refine (loose_any a l fuzz far _ _ _ (ha.never hw) (hl.never hw)).mono ?_
  rintro e w2 ⟨r4, r5, r6, rfl, hc2, hr4, hr5, hr6⟩
  have hw := hw.trans hc2
  have hr4 := hr4.sub (O' := Never) (fun _ _ h => h.elim)
  have hr5 := hr5.sub (O' := Never) (fun _ _ h => h.elim)
  have hr6 := hr6.sub (O' := Never) (fun _ _ h => h.elim)
  clear hc2
  rw [HZ.out, errV_zero]
  rw [HR.out] at hr4 hr5 hr6
  generalize (looseOf a l fuzz far).1 = X at *
  generalize (looseOf a l fuzz far).2.1 = L at *
  generalize (looseOf a l fuzz far).2.2 = P at *
  obtain ⟨pa, pc, rfl, p1, p2, hP⟩ := rdv_slice hr6
  obtain ⟨ga, gc, rfl, _, _, hG⟩ := rdv_slice hr5
  obtain ⟨xa, xc, rfl, _, _, _⟩ := rdv_slice hr4
  have hl2 := hl.never hw
  obtain ⟨la, lc, rfl, l1, l2, hL⟩ := rdv_slice hl2
  obtain ⟨aa, ac, rfl, _, _, _⟩ := rdv_slice ha
  rw [HPL.out]
  unfold maxLen at l2 p2
  go_wp2_with fail
  refine (strict_any a l _ _ _ (ha.never hw) hl2).mono ?_
  rintro e w3 ⟨r7, rfl, hc3, hr7⟩
  have hw3 := hw.trans hc3
  have hr7 := hr7.sub (O' := Never) (fun _ _ h => h.elim)
  have hr4 := hr4.never hc3
  have hr5 := hr5.never hc3
  have hP := hP.keep (O'' := Never) hc3 (fun _ _ h => h) (fun _ _ h => h)
  have hG := hG.keep (O'' := Never) hc3 (fun _ _ h => h) (fun _ _ h => h)
  have hL := hL.keep (O'' := Never) hc3 (fun _ _ h => h) (fun _ _ h => h)
  clear hl2 hr6 hw hc3
  rw [errV_pos HS.out]
  go_wp2_with fail
  go_loopw [19, 20] (fun room i wr => ∃ k : Nat, k ≤ l.length ∧ i = .int .i64 k ∧ room = .int .i64 ((a.length + sumNew (l.take k) : Nat) : Int) ∧ Chg Never w3 wr) (fun _ i _ => l.length - (intOf i).toNat)
  case atStart => exact ⟨0, Nat.zero_le _, rfl, by simp [sumNew], Chg.refl _ _⟩
  case round =>
    obtain ⟨k, hk, rfl, rfl, hcr⟩ := hrel
    by_cases hlt : k < l.length
    · obtain ⟨x, hx⟩ : ∃ x, l[k]? = some x := ⟨l[k], by simp [hlt]⟩
      obtain ⟨b, off, mv, rfl, _, _, c0, c1, c2, hmv⟩ := elems_hunk hL hx
      have HT := Lib.hid (sumNew_take hx)
      have hb1 : sumNew (l.take k) ≤ 120 * (l.take k).length := sumNew_le _ (fun y hy => hn120 y (List.mem_of_mem_take hy))
      rw [List.length_take, Nat.min_eq_left hk] at hb1
      have hb2 := hn120 x (List.mem_of_getElem? hx)
      have c2 := hcr.cellNever c2
      have hmv := hmv.never hcr
      have HSF := Lib.hid (hmem x (List.mem_of_getElem? hx))
      have hnn : newN x.marks = (those x.marks 45).length := rfl
      clear hx c0 c1 hP hG hL hr4 hr5 hr7
      go_wp2_with fail
      refine (refNew_any x.marks _ _ hmv HSF.out).mono ?_
      rintro e w4 ⟨r8, rfl, hc4, hr8⟩
      obtain ⟨na, nc, rfl, _, _, _⟩ := rdv_slice hr8
      have hcr := hcr.trans hc4
      clear hc4 hr8 hmv
      go_wp2_with fail
      go_roundw
      case rel => exact ⟨k + 1, by omega, by go_num, by rw [HT.out, hnn]; go_num, hcr⟩
      case measure => simp [intOf] <;> omega
    · obtain rfl : k = l.length := by omega
      rw [List.take_length]
      have hw := hw3.trans hcr
      have hr7 := hr7.never hcr
      have hr4 := hr4.never hcr
      have hr5 := hr5.never hcr
      have hP := hP.keep (O'' := Never) hcr (fun _ _ h => h) (fun _ _ h => h)
      have hG := hG.keep (O'' := Never) hcr (fun _ _ h => h) (fun _ _ h => h)
      have hL := hL.keep (O'' := Never) hcr (fun _ _ h => h) (fun _ _ h => h)
      have hsum : sumNew l ≤ 120 * l.length := sumNew_le _ hn120
      have hRb : a.length + sumNew l ≤ 7260 := by omega
      clear hcr hw3 hsum
      generalize a.length + sumNew l = RM at *
      generalize hW0 : wr = W0 at *
      go_wp2_with fail
      go_loopw [24, 25] (fun kk i wr => ∃ k : Nat, k ≤ l.length ∧ i = .int .i64 k ∧ kk = .int .i64 (kAt l P k) ∧ Chg Never w wr ∧ Chg Never W0 wr) (fun _ i _ => l.length - (intOf i).toNat)
      case atStart => exact ⟨0, Nat.zero_le _, rfl, by rw [kAt_zero]; rfl, hw, Chg.refl _ _⟩
      case round =>
        obtain ⟨k, hk, rfl, rfl, hcw, hcr⟩ := hrel
        have hkle : kAt l P k ≤ k := by
          unfold kAt
          refine Nat.le_trans (leftBy_le _ _) ?_
          simp; omega
        by_cases hlt : k < l.length
        · obtain ⟨x, hx⟩ : ∃ x, l[k]? = some x := ⟨l[k], by simp [hlt]⟩
          obtain ⟨q, hq⟩ : ∃ q, P[k]? = some q := ⟨P[k]'(by rw [HPL.out]; exact hlt), by simp [HPL.out, hlt]⟩
          obtain ⟨j1, j2⟩ := kAt_step k l P x q hx hq
          obtain ⟨pb, po, rfl, _, q0, qi⟩ := elems_int hP hq
          obtain ⟨b, off, mv, rfl, _, _, c0, c1, c2, hmv⟩ := elems_hunk hL hx
          have q0 := hcr.cellNever q0
          have c0 := hcr.cellNever c0
          have c1 := hcr.cellNever c1
          have c2 := hcr.cellNever c2
          have hmv := hmv.never hcr
          have hqb := z9 q (List.mem_of_getElem? hq)
          by_cases he : q = -1000
          · obtain ⟨j3, j4⟩ := j1 he
            rw [← HLB.out] at j3
            have hkl : kAt l P k < L.length := (List.getElem?_eq_some_iff.1 j3).1
            obtain ⟨gb, go, gv, rfl, _, _, d0, d1, d2, hgv⟩ := elems_hunk hG j3
            have d0 := hcr.cellNever d0
            have d1 := hcr.cellNever d1
            have d2 := hcr.cellNever d2
            have hgv := hgv.never hcr
            subst he
            have J4 := Lib.hid j4
            have hn : ¬ ((L.length : Int) ≤ (kAt l P k : Nat)) := by omega
            clear hx hq j1 j2 j3 j4 hP hG hL hr4 hr5 hr7 qi hqb
            generalize kAt l P k = kk at *
            go_wp2_with fail
            refine wp_region_still_tail 8 (by kernel_rfl) (by kernel_rfl) ?_
            simp only [List.take_succ_cons, List.take_zero, List.drop_succ_cons, List.drop_zero]
            change wpStill _ _ wr.drew _ _ _
            repeat still_step
            refine wpStill_nil ?_
            change wpList _ _ _ _ _ wr.drew
            have hcw := hcw.drew
            have hcr := hcr.drew
            have hgv := hgv.never ((Chg.refl Never wr).drew)
            have hmv := hmv.never ((Chg.refl Never wr).drew)
            clear d0 d1 d2 c0 c1 c2 q0
            generalize wr.drew = wq at hcw hcr hgv hmv ⊢
            go_wp2_with fail
            refine (hunk_eq_any x x _ _ _ hgv hmv).mono ?_
            rintro e w5 ⟨rfl, hc5⟩
            have hcw := hcw.trans hc5
            have hcr := hcr.trans hc5
            clear hc5
            rw [decide_eq_true rfl]
            go_wp2_with fail
            go_roundw
            case rel => exact ⟨k + 1, by omega, by go_num, by rw [J4.out]; go_num, hcw, hcr⟩
            case measure => simp [intOf] <;> omega
          · have J4 := Lib.hid (j2 he)
            have hb : -far ≤ q ∧ q ≤ far := by rcases hqb with h | h; exact absurd h he; exact h
            obtain ⟨hb1, hb2⟩ := hb
            clear hx hq j1 j2 hP hG hL hr4 hr5 hr7 qi hqb c0 c1 c2 hmv
            generalize kAt l P k = kk at *
            go_wp2_with fail
            go_roundw
            case rel => exact ⟨k + 1, by omega, by go_num, by rw [J4.out], hcw, hcr⟩
            case measure => simp [intOf] <;> omega
        · obtain rfl : k = l.length := by omega
          have hr4 := hr4.never hcr
          rw [kAt_all HPL.out, ← HLB.out] at hkle ⊢
          clear hP hG hL hr5 hr7
          go_wp2_with fail
          refine (texts_any X a _ _ _ hr4 (ha.never hcw)).mono ?_
          rintro e w6 ⟨rfl, hc6⟩
          have hcw := hcw.trans hc6
          clear hc6 hr4
          by_cases hall : L.length = l.length
          · rw [decide_eq_true (HSAME.out hall)]
            have hn : ¬ (L.length < l.length) := by omega
            go_wp2_with fail
            go_ret
            exact ⟨rfl, hcw⟩
          · have hn : L.length < l.length := by omega
            have hn2 : (L.length : Int) < l.length := by omega
            go_wp2_with fail
            go_ret
            exact ⟨rfl, hcw⟩

set_option maxHeartbeats 4000000 in
set_option maxRecDepth 100000 in
theorem exact_full (a : List ByteArray) (l : List Hunk) (fuzz far : Int) (va vl : Value) (w : World) (ha : Rdv w Never va a) (hl : Rdv w Never vl l)
    (HZ : Hid (looseFault a l fuzz far = 0)) (y : List ByteArray) (kk : Nat) (HS : Hid (strict a l = (y, kk, 0))) (hroom : 60 < a.length + sumNew l) :
    Calls Try.prog 4 #[va, vl, .int .i64 fuzz, .int .i64 far] w fun e w' => e = .returned (.bool true) ∧ Chg Never w w' := by
  obtain ⟨z1, z2, z3, z4, z5, z6, z7, z8, z9, z10⟩ := looseOf_facts HZ.out
  have HR : Hid (looseR a l fuzz far = looseOf a l fuzz far) := if_pos HZ.out
  have hla := linesFault_len z1
  obtain ⟨hl60, hok⟩ := hunksFault_zero (l := l) (by rw [z2])
  have hmem := hOk_mem _ _ _ hok
  have hn120 : ∀ x ∈ l, newN x.marks ≤ 120 := fun x hx => Nat.le_trans (newN_le _) (scriptFault_len (hmem x hx))
  have HPL := Lib.hid z7
  have HLB := Lib.hid z8
  have HSAME := Lib.hid z10
  clear z1 z2 z7 z8 z10 hok
  go_enter Try.func4, Try.ntmps4
  go_wp2_with fail
  refine (loose_any [sX] [⟨1, 1, [⟨45, sX⟩]⟩] 0 1 _ _ _ (rdv_lit (e := 9) (cs := [.string sX]) (heap_three _ _ _ _).2.2 rfl (by decide) ⟨⟨rfl, by decide⟩, trivial⟩) (rdv_lit (e := 31) (cs := [.int .i64 1, .int .i64 1, .slice (some ⟨w.heap.size, 0, none⟩) 1 1]) (heap_three _ _ _ _).2.1 rfl (by decide)
    ⟨⟨_, rfl, rdv_lit (e := 29) (cs := [.int .u8 45, .string sX]) (heap_three _ _ _ _).1 rfl (by decide) ⟨rd_mark _ _ 45 sX (by decide) (by decide) (by decide), trivial⟩⟩, trivial⟩)).mono ?_
  rintro e w1 ⟨r1, r2, r3, rfl, hc1, hr1, hr2, hr3⟩
  have hw : Chg Never w w1 := ((((Chg.refl Never w).alloc _).alloc _).alloc _).trans hc1
  clear hc1
  rw [loose_x.1, errV_zero]
  rw [loose_x.2] at hr1 hr2 hr3
  obtain ⟨a1, c1, rfl, _, _, _⟩ := rdv_slice hr1
  obtain ⟨a2, c2, rfl, _, _, _⟩ := rdv_slice hr2
  obtain ⟨a3, c3, rfl, _, _, hel⟩ := rdv_slice hr3
  obtain ⟨fb, fo, rfl, _, f0, _⟩ := elems_int hel (i := 0) rfl
  simp only [Nat.add_zero] at f0
  clear hr1 hr2 hr3 hel
  go_wp2_with fail
  clear f0
  refine (loose_any a l fuzz far _ _ _ (ha.never hw) (hl.never hw)).mono ?_
  rintro e w2 ⟨r4, r5, r6, rfl, hc2, hr4, hr5, hr6⟩
  have hw := hw.trans hc2
  have hr4 := hr4.sub (O' := Never) (fun _ _ h => h.elim)
  have hr5 := hr5.sub (O' := Never) (fun _ _ h => h.elim)
  have hr6 := hr6.sub (O' := Never) (fun _ _ h => h.elim)
  clear hc2
  rw [HZ.out, errV_zero]
  rw [HR.out] at hr4 hr5 hr6
  generalize (looseOf a l fuzz far).1 = X at *
  generalize (looseOf a l fuzz far).2.1 = L at *
  generalize (looseOf a l fuzz far).2.2 = P at *
  obtain ⟨pa, pc, rfl, p1, p2, hP⟩ := rdv_slice hr6
  obtain ⟨ga, gc, rfl, _, _, hG⟩ := rdv_slice hr5
  obtain ⟨xa, xc, rfl, _, _, _⟩ := rdv_slice hr4
  have hl2 := hl.never hw
  obtain ⟨la, lc, rfl, l1, l2, hL⟩ := rdv_slice hl2
  obtain ⟨aa, ac, rfl, _, _, _⟩ := rdv_slice ha
  rw [HPL.out]
  unfold maxLen at l2 p2
  go_wp2_with fail
  refine (strict_any a l _ _ _ (ha.never hw) hl2).mono ?_
  rintro e w3 ⟨r7, rfl, hc3, hr7⟩
  have hw3 := hw.trans hc3
  have hr7 := hr7.sub (O' := Never) (fun _ _ h => h.elim)
  have hr4 := hr4.never hc3
  have hr5 := hr5.never hc3
  have hP := hP.keep (O'' := Never) hc3 (fun _ _ h => h) (fun _ _ h => h)
  have hG := hG.keep (O'' := Never) hc3 (fun _ _ h => h) (fun _ _ h => h)
  have hL := hL.keep (O'' := Never) hc3 (fun _ _ h => h) (fun _ _ h => h)
  clear hl2 hr6 hw hc3
  rw [HS.out] at hr7 ⊢; simp only [errV_zero]
  go_wp2_with fail
  go_loopw [19, 20] (fun room i wr => ∃ k : Nat, k ≤ l.length ∧ i = .int .i64 k ∧ room = .int .i64 ((a.length + sumNew (l.take k) : Nat) : Int) ∧ Chg Never w3 wr) (fun _ i _ => l.length - (intOf i).toNat)
  case atStart => exact ⟨0, Nat.zero_le _, rfl, by simp [sumNew], Chg.refl _ _⟩
  case round =>
    obtain ⟨k, hk, rfl, rfl, hcr⟩ := hrel
    by_cases hlt : k < l.length
    · obtain ⟨x, hx⟩ : ∃ x, l[k]? = some x := ⟨l[k], by simp [hlt]⟩
      obtain ⟨b, off, mv, rfl, _, _, c0, c1, c2, hmv⟩ := elems_hunk hL hx
      have HT := Lib.hid (sumNew_take hx)
      have hb1 : sumNew (l.take k) ≤ 120 * (l.take k).length := sumNew_le _ (fun y hy => hn120 y (List.mem_of_mem_take hy))
      rw [List.length_take, Nat.min_eq_left hk] at hb1
      have hb2 := hn120 x (List.mem_of_getElem? hx)
      have c2 := hcr.cellNever c2
      have hmv := hmv.never hcr
      have HSF := Lib.hid (hmem x (List.mem_of_getElem? hx))
      have hnn : newN x.marks = (those x.marks 45).length := rfl
      clear hx c0 c1 hP hG hL hr4 hr5 hr7
      go_wp2_with fail
      refine (refNew_any x.marks _ _ hmv HSF.out).mono ?_
      rintro e w4 ⟨r8, rfl, hc4, hr8⟩
      obtain ⟨na, nc, rfl, _, _, _⟩ := rdv_slice hr8
      have hcr := hcr.trans hc4
      clear hc4 hr8 hmv
      go_wp2_with fail
      go_roundw
      case rel => exact ⟨k + 1, by omega, by go_num, by rw [HT.out, hnn]; go_num, hcr⟩
      case measure => simp [intOf] <;> omega
    · obtain rfl : k = l.length := by omega
      rw [List.take_length]
      have hw := hw3.trans hcr
      have hr7 := hr7.never hcr
      have hr4 := hr4.never hcr
      have hr5 := hr5.never hcr
      have hP := hP.keep (O'' := Never) hcr (fun _ _ h => h) (fun _ _ h => h)
      have hG := hG.keep (O'' := Never) hcr (fun _ _ h => h) (fun _ _ h => h)
      have hL := hL.keep (O'' := Never) hcr (fun _ _ h => h) (fun _ _ h => h)
      have hsum : sumNew l ≤ 120 * l.length := sumNew_le _ hn120
      have hRb : a.length + sumNew l ≤ 7260 := by omega
      clear hcr hw3 hsum
      generalize a.length + sumNew l = RM at *
      generalize hW0 : wr = W0 at *
      go_wp2_with fail
      go_loopw [24, 25] (fun kk i wr => ∃ k : Nat, k ≤ l.length ∧ i = .int .i64 k ∧ kk = .int .i64 (kAt l P k) ∧ Chg Never w wr ∧ Chg Never W0 wr) (fun _ i _ => l.length - (intOf i).toNat)
      case atStart => exact ⟨0, Nat.zero_le _, rfl, by rw [kAt_zero]; rfl, hw, Chg.refl _ _⟩
      case round =>
        obtain ⟨k, hk, rfl, rfl, hcw, hcr⟩ := hrel
        have hkle : kAt l P k ≤ k := by
          unfold kAt
          refine Nat.le_trans (leftBy_le _ _) ?_
          simp; omega
        by_cases hlt : k < l.length
        · obtain ⟨x, hx⟩ : ∃ x, l[k]? = some x := ⟨l[k], by simp [hlt]⟩
          obtain ⟨q, hq⟩ : ∃ q, P[k]? = some q := ⟨P[k]'(by rw [HPL.out]; exact hlt), by simp [HPL.out, hlt]⟩
          obtain ⟨j1, j2⟩ := kAt_step k l P x q hx hq
          obtain ⟨pb, po, rfl, _, q0, qi⟩ := elems_int hP hq
          obtain ⟨b, off, mv, rfl, _, _, c0, c1, c2, hmv⟩ := elems_hunk hL hx
          have q0 := hcr.cellNever q0
          have c0 := hcr.cellNever c0
          have c1 := hcr.cellNever c1
          have c2 := hcr.cellNever c2
          have hmv := hmv.never hcr
          have hqb := z9 q (List.mem_of_getElem? hq)
          by_cases he : q = -1000
          · obtain ⟨j3, j4⟩ := j1 he
            rw [← HLB.out] at j3
            have hkl : kAt l P k < L.length := (List.getElem?_eq_some_iff.1 j3).1
            obtain ⟨gb, go, gv, rfl, _, _, d0, d1, d2, hgv⟩ := elems_hunk hG j3
            have d0 := hcr.cellNever d0
            have d1 := hcr.cellNever d1
            have d2 := hcr.cellNever d2
            have hgv := hgv.never hcr
            subst he
            have J4 := Lib.hid j4
            have hn : ¬ ((L.length : Int) ≤ (kAt l P k : Nat)) := by omega
            clear hx hq j1 j2 j3 j4 hP hG hL hr4 hr5 hr7 qi hqb
            generalize kAt l P k = kk at *
            go_wp2_with fail
            refine wp_region_still_tail 8 (by kernel_rfl) (by kernel_rfl) ?_
            simp only [List.take_succ_cons, List.take_zero, List.drop_succ_cons, List.drop_zero]
            change wpStill _ _ wr.drew _ _ _
            repeat still_step
            refine wpStill_nil ?_
            change wpList _ _ _ _ _ wr.drew
            have hcw := hcw.drew
            have hcr := hcr.drew
            have hgv := hgv.never ((Chg.refl Never wr).drew)
            have hmv := hmv.never ((Chg.refl Never wr).drew)
            clear d0 d1 d2 c0 c1 c2 q0
            generalize wr.drew = wq at hcw hcr hgv hmv ⊢
            go_wp2_with fail
            refine (hunk_eq_any x x _ _ _ hgv hmv).mono ?_
            rintro e w5 ⟨rfl, hc5⟩
            have hcw := hcw.trans hc5
            have hcr := hcr.trans hc5
            clear hc5
            rw [decide_eq_true rfl]
            go_wp2_with fail
            go_roundw
            case rel => exact ⟨k + 1, by omega, by go_num, by rw [J4.out]; go_num, hcw, hcr⟩
            case measure => simp [intOf] <;> omega
          · have J4 := Lib.hid (j2 he)
            have hb : -far ≤ q ∧ q ≤ far := by rcases hqb with h | h; exact absurd h he; exact h
            obtain ⟨hb1, hb2⟩ := hb
            clear hx hq j1 j2 hP hG hL hr4 hr5 hr7 qi hqb c0 c1 c2 hmv
            generalize kAt l P k = kk at *
            go_wp2_with fail
            go_roundw
            case rel => exact ⟨k + 1, by omega, by go_num, by rw [J4.out], hcw, hcr⟩
            case measure => simp [intOf] <;> omega
        · obtain rfl : k = l.length := by omega
          have hr4 := hr4.never hcr
          rw [kAt_all HPL.out, ← HLB.out] at hkle ⊢
          clear hP hG hL hr5 hr7
          go_wp2_with fail
          refine (texts_any X a _ _ _ hr4 (ha.never hcw)).mono ?_
          rintro e w6 ⟨rfl, hc6⟩
          have hcw := hcw.trans hc6
          clear hc6 hr4
          by_cases hall : L.length = l.length
          · rw [decide_eq_true (HSAME.out hall)]
            have hn : ¬ (L.length < l.length) := by omega
            go_wp2_with fail
            go_ret
            exact ⟨rfl, hcw⟩
          · have hn : L.length < l.length := by omega
            have hn2 : (L.length : Int) < l.length := by omega
            go_wp2_with fail
            go_ret
            exact ⟨rfl, hcw⟩

set_option maxHeartbeats 4000000 in
set_option maxRecDepth 100000 in
theorem exact_ok (a : List ByteArray) (l : List Hunk) (fuzz far : Int) (va vl : Value) (w : World) (ha : Rdv w Never va a) (hl : Rdv w Never vl l)
    (HZ : Hid (looseFault a l fuzz far = 0)) (y : List ByteArray) (kk : Nat) (HS : Hid (strict a l = (y, kk, 0))) (hroom : a.length + sumNew l ≤ 60) :
    Calls Try.prog 4 #[va, vl, .int .i64 fuzz, .int .i64 far] w fun e w' => e = .returned (.bool true) ∧ Chg Never w w' := by
  obtain ⟨z1, z2, z3, z4, z5, z6, z7, z8, z9, z10⟩ := looseOf_facts HZ.out
  have HR : Hid (looseR a l fuzz far = looseOf a l fuzz far) := if_pos HZ.out
  have hla := linesFault_len z1
  obtain ⟨hl60, hok⟩ := hunksFault_zero (l := l) (by rw [z2])
  have hmem := hOk_mem _ _ _ hok
  have hn120 : ∀ x ∈ l, newN x.marks ≤ 120 := fun x hx => Nat.le_trans (newN_le _) (scriptFault_len (hmem x hx))
  have HPL := Lib.hid z7
  have HLB := Lib.hid z8
  have HSAME := Lib.hid z10
  clear z1 z2 z7 z8 z10 hok
  have hfa := exact_facts (fuzz := fuzz) (far := far) HS.out hroom
  have HX : Hid ((looseOf a l fuzz far).1 = y) := by rw [Hid, hfa]
  have HL0 : Hid ((looseOf a l fuzz far).2.1 = []) := by rw [Hid, hfa]
  have HP0 : Hid ((looseOf a l fuzz far).2.2 = l.map fun _ => 0) := by rw [Hid, hfa]
  clear hfa
  go_enter Try.func4, Try.ntmps4
  go_wp2_with fail
  refine (loose_any [sX] [⟨1, 1, [⟨45, sX⟩]⟩] 0 1 _ _ _ (rdv_lit (e := 9) (cs := [.string sX]) (heap_three _ _ _ _).2.2 rfl (by decide) ⟨⟨rfl, by decide⟩, trivial⟩) (rdv_lit (e := 31) (cs := [.int .i64 1, .int .i64 1, .slice (some ⟨w.heap.size, 0, none⟩) 1 1]) (heap_three _ _ _ _).2.1 rfl (by decide)
    ⟨⟨_, rfl, rdv_lit (e := 29) (cs := [.int .u8 45, .string sX]) (heap_three _ _ _ _).1 rfl (by decide) ⟨rd_mark _ _ 45 sX (by decide) (by decide) (by decide), trivial⟩⟩, trivial⟩)).mono ?_
  rintro e w1 ⟨r1, r2, r3, rfl, hc1, hr1, hr2, hr3⟩
  have hw : Chg Never w w1 := ((((Chg.refl Never w).alloc _).alloc _).alloc _).trans hc1
  clear hc1
  rw [loose_x.1, errV_zero]
  rw [loose_x.2] at hr1 hr2 hr3
  obtain ⟨a1, c1, rfl, _, _, _⟩ := rdv_slice hr1
  obtain ⟨a2, c2, rfl, _, _, _⟩ := rdv_slice hr2
  obtain ⟨a3, c3, rfl, _, _, hel⟩ := rdv_slice hr3
  obtain ⟨fb, fo, rfl, _, f0, _⟩ := elems_int hel (i := 0) rfl
  simp only [Nat.add_zero] at f0
  clear hr1 hr2 hr3 hel
  go_wp2_with fail
  clear f0
  refine (loose_any a l fuzz far _ _ _ (ha.never hw) (hl.never hw)).mono ?_
  rintro e w2 ⟨r4, r5, r6, rfl, hc2, hr4, hr5, hr6⟩
  have hw := hw.trans hc2
  have hr4 := hr4.sub (O' := Never) (fun _ _ h => h.elim)
  have hr5 := hr5.sub (O' := Never) (fun _ _ h => h.elim)
  have hr6 := hr6.sub (O' := Never) (fun _ _ h => h.elim)
  clear hc2
  rw [HZ.out, errV_zero]
  rw [HR.out] at hr4 hr5 hr6
  generalize (looseOf a l fuzz far).1 = X at *
  generalize (looseOf a l fuzz far).2.1 = L at *
  generalize (looseOf a l fuzz far).2.2 = P at *
  obtain ⟨pa, pc, rfl, p1, p2, hP⟩ := rdv_slice hr6
  obtain ⟨ga, gc, rfl, _, _, hG⟩ := rdv_slice hr5
  obtain ⟨xa, xc, rfl, _, _, _⟩ := rdv_slice hr4
  have hl2 := hl.never hw
  obtain ⟨la, lc, rfl, l1, l2, hL⟩ := rdv_slice hl2
  obtain ⟨aa, ac, rfl, _, _, _⟩ := rdv_slice ha
  rw [HPL.out]
  unfold maxLen at l2 p2
  go_wp2_with fail
  refine (strict_any a l _ _ _ (ha.never hw) hl2).mono ?_
  rintro e w3 ⟨r7, rfl, hc3, hr7⟩
  have hw3 := hw.trans hc3
  have hr7 := hr7.sub (O' := Never) (fun _ _ h => h.elim)
  have hr4 := hr4.never hc3
  have hr5 := hr5.never hc3
  have hP := hP.keep (O'' := Never) hc3 (fun _ _ h => h) (fun _ _ h => h)
  have hG := hG.keep (O'' := Never) hc3 (fun _ _ h => h) (fun _ _ h => h)
  have hL := hL.keep (O'' := Never) hc3 (fun _ _ h => h) (fun _ _ h => h)
  clear hl2 hr6 hw hc3
  rw [HS.out] at hr7 ⊢; simp only [errV_zero]
  go_wp2_with fail
  go_loopw [19, 20] (fun room i wr => ∃ k : Nat, k ≤ l.length ∧ i = .int .i64 k ∧ room = .int .i64 ((a.length + sumNew (l.take k) : Nat) : Int) ∧ Chg Never w3 wr) (fun _ i _ => l.length - (intOf i).toNat)
  case atStart => exact ⟨0, Nat.zero_le _, rfl, by simp [sumNew], Chg.refl _ _⟩
  case round =>
    obtain ⟨k, hk, rfl, rfl, hcr⟩ := hrel
    by_cases hlt : k < l.length
    · obtain ⟨x, hx⟩ : ∃ x, l[k]? = some x := ⟨l[k], by simp [hlt]⟩
      obtain ⟨b, off, mv, rfl, _, _, c0, c1, c2, hmv⟩ := elems_hunk hL hx
      have HT := Lib.hid (sumNew_take hx)
      have hb1 : sumNew (l.take k) ≤ 120 * (l.take k).length := sumNew_le _ (fun y hy => hn120 y (List.mem_of_mem_take hy))
      rw [List.length_take, Nat.min_eq_left hk] at hb1
      have hb2 := hn120 x (List.mem_of_getElem? hx)
      have c2 := hcr.cellNever c2
      have hmv := hmv.never hcr
      have HSF := Lib.hid (hmem x (List.mem_of_getElem? hx))
      have hnn : newN x.marks = (those x.marks 45).length := rfl
      clear hx c0 c1 hP hG hL hr4 hr5 hr7
      go_wp2_with fail
      refine (refNew_any x.marks _ _ hmv HSF.out).mono ?_
      rintro e w4 ⟨r8, rfl, hc4, hr8⟩
      obtain ⟨na, nc, rfl, _, _, _⟩ := rdv_slice hr8
      have hcr := hcr.trans hc4
      clear hc4 hr8 hmv
      go_wp2_with fail
      go_roundw
      case rel => exact ⟨k + 1, by omega, by go_num, by rw [HT.out, hnn]; go_num, hcr⟩
      case measure => simp [intOf] <;> omega
    · obtain rfl : k = l.length := by omega
      rw [List.take_length]
      have hw := hw3.trans hcr
      have hr7 := hr7.never hcr
      have hr4 := hr4.never hcr
      have hr5 := hr5.never hcr
      have hP := hP.keep (O'' := Never) hcr (fun _ _ h => h) (fun _ _ h => h)
      have hG := hG.keep (O'' := Never) hcr (fun _ _ h => h) (fun _ _ h => h)
      have hL := hL.keep (O'' := Never) hcr (fun _ _ h => h) (fun _ _ h => h)
      have hsum : sumNew l ≤ 120 * l.length := sumNew_le _ hn120
      have hRb : a.length + sumNew l ≤ 7260 := by omega
      clear hcr hw3 hsum
      generalize a.length + sumNew l = RM at *
      obtain rfl : L = [] := HL0.out
      clear hG HL0 HLB hr5
      simp only [List.length_nil] at HSAME ⊢
      go_wp2_with fail
      refine (texts_any X y _ _ _ hr4 hr7).mono ?_
      rintro e w5 ⟨rfl, hc5⟩
      have hw := hw.trans hc5
      have hr4 := hr4.never hc5
      have hP := hP.keep (O'' := Never) hc5 (fun _ _ h => h) (fun _ _ h => h)
      clear hc5 hr7 hL
      rw [decide_eq_true HX.out]
      go_wp2_with fail
      go_loop [23] (fun i => ∃ k : Nat, k ≤ l.length ∧ i = .int .i64 k) (fun i => l.length - (intOf i).toNat)
      case atStart => exact ⟨0, Nat.zero_le _, rfl⟩
      case round =>
        obtain ⟨k, hk, rfl⟩ := hrel
        by_cases hlt : k < l.length
        · have hq : P[k]? = some 0 := by rw [HP0.out]; simp [hlt]
          obtain ⟨pb, po, rfl, _, q0, qi⟩ := elems_int hP hq
          clear hP hr4 hq
          go_wp2_with fail
          go_round
          case rel => exact ⟨k + 1, by omega, by go_num⟩
          case measure => simp [intOf] <;> omega
        · obtain rfl : k = l.length := by omega
          clear hlt hk
          go_wp2_with fail
          go_loop [24, 25] (fun kk i => ∃ k : Nat, k ≤ l.length ∧ i = .int .i64 k ∧ kk = .int .i64 0) (fun _ i => l.length - (intOf i).toNat)
          case atStart => exact ⟨0, Nat.zero_le _, rfl, rfl⟩
          case round =>
            obtain ⟨k, hk, rfl, rfl⟩ := hrel
            by_cases hlt : k < l.length
            · have hq : P[k]? = some 0 := by rw [HP0.out]; simp [hlt]
              obtain ⟨pb, po, rfl, _, q0, qi⟩ := elems_int hP hq
              clear hP hr4 hq
              go_wp2_with fail
              go_round
              case rel => exact ⟨k + 1, by omega, by go_num, rfl⟩
              case measure => simp [intOf] <;> omega
            · obtain rfl : k = l.length := by omega
              clear hP
              go_wp2_with fail
              refine (texts_any X a _ _ _ hr4 (ha.never hw)).mono ?_
              rintro e w6 ⟨rfl, hc6⟩
              have hcw := hw.trans hc6
              clear hc6 hr4
              by_cases hall : l.length = 0
              · rw [decide_eq_true (HSAME.out hall.symm)]
                have hn : ¬ (0 < l.length) := by omega
                clear hall
                go_wp2_with fail
                go_ret
                exact ⟨rfl, hcw⟩
              · have hn : 0 < l.length := by omega
                have hn2 : (0 : Int) < l.length := by omega
                go_wp2_with fail
                go_ret
                exact ⟨rfl, hcw⟩

theorem law_exact (a : List ByteArray) (l : List Hunk) (fuzz far : Int) (va vl : Value) (w : World) (ha : Rdv w Never va a) (hl : Rdv w Never vl l) (_ : I64 fuzz) (_ : I64 far) :
    Calls Try.prog 4 #[va, vl, .int .i64 fuzz, .int .i64 far] w fun e w' => e = .returned (.bool true) ∧ Chg Never w w' := by
  by_cases h1 : looseFault a l fuzz far = 0
  · by_cases h2 : (strict a l).2.2 = 0
    · by_cases h3 : a.length + sumNew l ≤ 60
      · exact exact_ok a l fuzz far va vl w ha hl h1 (strict a l).1 (strict a l).2.1 (by rw [Hid, ← h2]) h3
      · exact exact_full a l fuzz far va vl w ha hl h1 (strict a l).1 (strict a l).2.1 (by rw [Hid, ← h2]) (by omega)
    · exact exact_clash a l fuzz far va vl w ha hl h1 h2
  · exact exact_bad a l fuzz far va vl w ha hl h1
end Go.Proofs.Ytlflhehlbnbhgaa
