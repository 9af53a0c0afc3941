/-
  PARTS: THE LAWS OF THE DISTANCE AND OF THE SCRIPT, in plain Lean (chapter 2, E2): symmetric, a triangle, 0 just of the same, attained by the script, no script is shorter.; THE WALKS OF LAYER 2: checked, measure, Far.; THE WALKS OF LAYER 2 over scripts: Check, those, Old, New; the laws' changes and Marks.; THE WALKS: edit.Old, edit.New; the laws' Marks.; THE WALK of edit.Script.; THE WALKS OF LAYER 3: kept, changed, Size, ContainsFunc, one.
-/
import Derived.Test.YtmjpfoeaobdaeaaGreatDoorRa1
import Derived.StillTailTactics
import Derived.Test.YtmjpfoeaobdaeaaGreatDoorRa2
import Derived.Laws.StructEq
set_option linter.unusedVariables false
set_option linter.unusedSimpArgs false
namespace Go.Proofs.YtmjpfoeaobdaeaaGreatDoor

theorem far_nil (b : List ByteArray) : far [] b = b.length := by rw [far]
theorem far_nil' (a : List ByteArray) : far a [] = a.length := by cases a <;> rw [far] <;> rfl
theorem far_cons (x y : ByteArray) (a b : List ByteArray) : far (x :: a) (y :: b) = if x = y then far a b else 1 + min (far a (y :: b)) (far (x :: a) b) := by rw [far]
theorem far_same (x : ByteArray) (a b : List ByteArray) : far (x :: a) (x :: b) = far a b := by rw [far_cons, if_pos rfl]

theorem far_comm : ∀ (n : Nat) (a b : List ByteArray), a.length + b.length = n → far a b = far b a := by
  intro n
  induction n using Nat.strongRecOn with
  | _ n ih =>
    intro a b hn
    match a, b with
    | [], b => rw [far_nil, far_nil']
    | x :: a, [] => rw [far_nil, far_nil']
    | x :: a, y :: b =>
      simp only [List.length_cons] at hn
      rw [far_cons, far_cons, ih _ (by omega) a b rfl, ih _ (by simp only [List.length_cons]; omega) a (y :: b) rfl, ih _ (by simp only [List.length_cons]; omega) (x :: a) b rfl]
      by_cases h : x = y
      · subst h; simp
      · rw [if_neg h, if_neg (fun e => h e.symm), Nat.min_comm]
theorem far_symm (a b : List ByteArray) : far a b = far b a := far_comm _ a b rfl

theorem far_step : ∀ (n : Nat) (x : ByteArray) (a c : List ByteArray), a.length + c.length = n → far (x :: a) c ≤ 1 + far a c ∧ far a c ≤ 1 + far (x :: a) c := by
  intro n
  induction n using Nat.strongRecOn with
  | _ n ih =>
    intro x a c hn
    match c with
    | [] => rw [far_nil', far_nil']; simp only [List.length_cons]; omega
    | z :: c =>
      simp only [List.length_cons] at hn
      have h1 := ih (a.length + c.length) (by omega) z c a (by omega)
      rw [far_symm (z :: c) a, far_symm c a] at h1
      have h2 := ih (a.length + c.length) (by omega) x a c rfl
      rw [far_cons]
      by_cases h : x = z
      · rw [if_pos h]; omega
      · rw [if_neg h]; omega

theorem far_take (x : ByteArray) (a c : List ByteArray) : far (x :: a) c ≤ 1 + far a c := (far_step _ x a c rfl).1
theorem far_untake (x : ByteArray) (a c : List ByteArray) : far a c ≤ 1 + far (x :: a) c := (far_step _ x a c rfl).2
theorem far_unput (x : ByteArray) (a c : List ByteArray) : far a c ≤ 1 + far a (x :: c) := by rw [far_symm a, far_symm a]; exact far_untake x c a

theorem far_le : ∀ (a b : List ByteArray), far a b ≤ a.length + b.length
  | [], b => by rw [far_nil]; simp
  | x :: a, b => by have := far_take x a b; have := far_le a b; simp only [List.length_cons]; omega
theorem far_ge : ∀ (a b : List ByteArray), a.length ≤ far a b + b.length
  | a, [] => by rw [far_nil']; simp
  | a, y :: b => by have := far_unput y a b; have := far_ge a b; simp only [List.length_cons]; omega

def signsOk (s : List Mark) : Prop := ∀ m ∈ s, m.sign = 32 ∨ m.sign = 45 ∨ m.sign = 43

theorem oldOf_cons (m : Mark) (s : List Mark) : oldOf (m :: s) = if m.sign = 43 then oldOf s else m.text :: oldOf s := by
  by_cases h : m.sign = 43 <;> simp [oldOf, those, h]
theorem newOf_cons (m : Mark) (s : List Mark) : newOf (m :: s) = if m.sign = 45 then newOf s else m.text :: newOf s := by
  by_cases h : m.sign = 45 <;> simp [newOf, those, h]
theorem changes_cons (m : Mark) (s : List Mark) : changes (m :: s) = if m.sign = 32 then changes s else changes s + 1 := by
  by_cases h : m.sign = 32 <;> simp [changes, h]

theorem script_facts : ∀ (n : Nat) (a b : List ByteArray), a.length + b.length = n →
    oldOf (script a b) = a ∧ newOf (script a b) = b ∧ changes (script a b) = far a b ∧ signsOk (script a b) := by
  intro n
  induction n using Nat.strongRecOn with
  | _ n ih =>
    intro a b hn
    match a, b with
    | [], [] => rw [script, far_nil]; simp [oldOf, newOf, those, changes, signsOk]
    | x :: a, [] =>
      obtain ⟨h1, h2, h3, h4⟩ := ih _ (by simp only [List.length_cons, List.length_nil] at hn ⊢; omega) a [] rfl
      rw [script, oldOf_cons, newOf_cons, changes_cons, h1, h2, h3, far_nil', far_nil']
      refine ⟨by simp, by simp, by simp, ?_⟩
      intro m hm
      rcases List.mem_cons.1 hm with rfl | hm
      · simp
      · exact h4 m hm
    | [], y :: b =>
      obtain ⟨h1, h2, h3, h4⟩ := ih _ (by simp only [List.length_cons, List.length_nil] at hn ⊢; omega) [] b rfl
      rw [script, oldOf_cons, newOf_cons, changes_cons, h1, h2, h3, far_nil, far_nil]
      refine ⟨by simp, by simp, by simp, ?_⟩
      intro m hm
      rcases List.mem_cons.1 hm with rfl | hm
      · simp
      · exact h4 m hm
    | x :: a, y :: b =>
      simp only [List.length_cons] at hn
      obtain ⟨p1, p2, p3, p4⟩ := ih _ (by omega) a b rfl
      obtain ⟨q1, q2, q3, q4⟩ := ih _ (by simp only [List.length_cons]; omega) a (y :: b) rfl
      obtain ⟨r1, r2, r3, r4⟩ := ih _ (by simp only [List.length_cons]; omega) (x :: a) b rfl
      have e := far_cons x y a b
      rw [script]
      by_cases hxy : x = y
      · subst hxy
        rw [if_pos rfl] at e ⊢
        rw [oldOf_cons, newOf_cons, changes_cons, p1, p2, p3, e]
        refine ⟨by simp, by simp, by simp, ?_⟩
        intro m hm
        rcases List.mem_cons.1 hm with rfl | hm
        · simp
        · exact p4 m hm
      · rw [if_neg hxy] at e ⊢
        by_cases ht : far a (y :: b) + 1 = far (x :: a) (y :: b)
        · rw [if_pos ht, oldOf_cons, newOf_cons, changes_cons, q1, q2, q3]
          refine ⟨by simp, by simp, by simp; omega, ?_⟩
          intro m hm
          rcases List.mem_cons.1 hm with rfl | hm
          · simp
          · exact q4 m hm
        · rw [if_neg ht, oldOf_cons, newOf_cons, changes_cons, r1, r2, r3]
          refine ⟨by simp, by simp, by simp; omega, ?_⟩
          intro m hm
          rcases List.mem_cons.1 hm with rfl | hm
          · simp
          · exact r4 m hm
theorem script_old (a b : List ByteArray) : oldOf (script a b) = a := (script_facts _ a b rfl).1
theorem script_new (a b : List ByteArray) : newOf (script a b) = b := (script_facts _ a b rfl).2.1
theorem script_signs (a b : List ByteArray) : signsOk (script a b) := (script_facts _ a b rfl).2.2.2
end Go.Proofs.YtmjpfoeaobdaeaaGreatDoor
namespace Go.Proofs.YtmjpfoeaobdaeaaGreatDoor
open Go.RowKit

def checkedFault (l m : List ByteArray) : Int := if linesFault l = 0 then linesFault m else linesFault l
theorem linesFault_len {l : List ByteArray} (h : linesFault l = 0) : l.length ≤ 60 := by
  unfold linesFault at h
  by_cases h1 : 60 < l.length
  · simp [h1] at h
  · omega
theorem checkedFault_zero {l m : List ByteArray} : checkedFault l m = 0 ↔ linesFault l = 0 ∧ linesFault m = 0 := by
  unfold checkedFault
  by_cases h : linesFault l = 0 <;> simp [h]

theorem checked_any (l m : List ByteArray) (v u : Value) (w : World) (h : Rdv w Never v l) (g : Rdv w Never u m) :
    Calls Tryz.prog 78 #[v, u] w fun e w' => e = .returned (errV (checkedFault l m)) ∧ w = w' := by
  by_cases hz : linesFault l = 0
  · go_enter Tryz.func78, Tryz.ntmps78
    go_wp2_with fail
    refine (check_any l _ _ h).mono ?_
    rintro e w' ⟨rfl, rfl⟩
    rw [hz, errV_zero]
    go_wp2_with fail
    refine (check_any m _ _ g).mono ?_
    rintro e w' ⟨rfl, rfl⟩
    go_wp2_with fail
    go_ret
    exact ⟨by unfold checkedFault; rw [if_pos hz]; rfl, rfl⟩
  · go_enter Tryz.func78, Tryz.ntmps78
    go_wp2_with fail
    refine (check_any l _ _ h).mono ?_
    rintro e w' ⟨rfl, rfl⟩
    rw [errV_pos hz]
    go_wp2_with fail
    go_ret
    exact ⟨by unfold checkedFault; rw [if_neg hz, errV_pos hz]; rfl, rfl⟩

def zeros : Array Value := Array.replicate 3721 (.int .i64 0)
theorem zero_table (w : World) : (zeroValue 179).run Tryz.prog w = .ok (.agg zeros) w := by kernel_rfl

def Fil (T : Nat) (wr : World) (l m : List ByteArray) (x y : Int) : Prop :=
  ∃ c : Array Value, wr.heap[T]? = some (.cells c 179 (0, 0)) ∧ c.size = 3721 ∧ (∀ j, j < 3721 → ∃ n, c[j]? = some (.int .i64 n)) ∧
    ∀ i k : Nat, i ≤ l.length → k ≤ m.length → (x < i ∨ (x = i ∧ y < k)) → c[i * 61 + k]? = some (.int .i64 (far (l.drop i) (m.drop k)))

theorem Fil.cell {T : Nat} {wr : World} {l m : List ByteArray} {x y : Int} (h : Fil T wr l m x y) {i k : Nat} (hi : i ≤ l.length) (hk : k ≤ m.length) (hp : x < i ∨ (x = i ∧ y < k)) :
    wr.cell? ⟨T, i * 61 + k, none⟩ = some (.int .i64 (far (l.drop i) (m.drop k))) := by
  obtain ⟨c, h1, h2, h3, h4⟩ := h
  simp only [World.cell?, h1]
  exact h4 i k hi hk hp
theorem Fil.any {T : Nat} {wr : World} {l m : List ByteArray} {x y : Int} (h : Fil T wr l m x y) {j : Nat} (hj : j < 3721) :
    ∃ n, wr.cell? ⟨T, j, none⟩ = some (.int .i64 n) := by
  obtain ⟨c, h1, h2, h3, h4⟩ := h
  simp only [World.cell?, h1]
  exact h3 j hj
theorem Fil.free {T : Nat} {wr : World} {l m : List ByteArray} {x y : Int} (h : Fil T wr l m x y) (j : Nat) : wr.frozen? ⟨T, j, none⟩ = false := by
  obtain ⟨c, h1, h2, h3, h4⟩ := h
  simp [World.frozen?, h1]

theorem Fil.set {T : Nat} {wr : World} {l m : List ByteArray} {i k : Nat} (h : Fil T wr l m i k) (hl : l.length ≤ 60) (hm : m.length ≤ 60) (hi : i ≤ l.length) (hk : k ≤ m.length) {n : Int} (hn : n = far (l.drop i) (m.drop k)) :
    Fil T (wr.setCell ⟨T, i * 61 + k, none⟩ (.int .i64 n)) l m i ((k : Int) - 1) := by
  obtain ⟨c, h1, h2, h3, h4⟩ := h
  refine ⟨c.setIfInBounds (i * 61 + k) (.int .i64 n), ?_, by simpa using h2, ?_, ?_⟩
  · simp [World.setCell, Array.getElem?_modify, h1]
  · intro j hj
    by_cases e : i * 61 + k = j
    · exact ⟨n, by rw [Array.getElem?_setIfInBounds, if_pos e, if_pos (by omega)]⟩
    · obtain ⟨n', hn'⟩ := h3 j hj
      exact ⟨n', by rw [Array.getElem?_setIfInBounds, if_neg e]; exact hn'⟩
  · intro i' k' hi' hk' hp
    by_cases e : i * 61 + k = i' * 61 + k'
    · have e1 : i' = i := by omega
      have e2 : k' = k := by omega
      subst e1 e2
      rw [Array.getElem?_setIfInBounds, if_pos e, if_pos (by omega), hn]
    · rw [Array.getElem?_setIfInBounds, if_neg e]
      refine h4 i' k' hi' hk' ?_
      rcases hp with hp | ⟨hp, hq⟩
      · exact .inl hp
      · rcases Int.lt_or_le k k' with h5 | h5
        · exact .inr ⟨hp, h5⟩
        · exact absurd (by omega) e

theorem Fil.drewN {T : Nat} {wr : World} {l m : List ByteArray} {x y : Int} (h : Fil T wr l m x y) (n : Nat) : Fil T (wr.drewN n) l m x y := h
theorem Fil.drew {T : Nat} {wr : World} {l m : List ByteArray} {x y : Int} (h : Fil T wr l m x y) : Fil T wr.drew l m x y := h

theorem Fil.start (w : World) (l m : List ByteArray) : Fil w.heap.size (w.alloc (.cells zeros 179)) l m l.length m.length := by
  refine ⟨zeros, heap_alloc_new _ _, by simp [zeros], ?_, ?_⟩
  · intro j hj
    exact ⟨0, by simp [zeros, hj]⟩
  · intro i k hi hk hp
    omega
theorem Fil.row {T : Nat} {wr : World} {l m : List ByteArray} {i : Nat} (h : Fil T wr l m i (-1)) : Fil T wr l m ((i : Int) - 1) m.length := by
  obtain ⟨c, h1, h2, h3, h4⟩ := h
  refine ⟨c, h1, h2, h3, ?_⟩
  intro i' k' hi' hk' hp
  refine h4 i' k' hi' hk' ?_
  omega

theorem far_end_l {l m : List ByteArray} {i k : Nat} (hi : i = l.length) (hk : k ≤ m.length) : (m.length : Int) - k = far (l.drop i) (m.drop k) := by
  rw [hi, List.drop_length, far_nil, List.length_drop]; omega
theorem far_end_m {l m : List ByteArray} {i k : Nat} (hk : k = m.length) (hi : i ≤ l.length) : (l.length : Int) - i = far (l.drop i) (m.drop k) := by
  rw [hk, List.drop_length, far_nil', List.length_drop]; omega
theorem far_eq {l m : List ByteArray} {i k : Nat} {x : ByteArray} (hx : l[i]? = some x) (hy : m[k]? = some x) : far (l.drop i) (m.drop k) = far (l.drop (i + 1)) (m.drop (k + 1)) := by
  rw [drop_eq hx, drop_eq hy, far_same]
theorem far_ne {l m : List ByteArray} {i k : Nat} {x y : ByteArray} (hx : l[i]? = some x) (hy : m[k]? = some y) (h : x ≠ y) :
    far (l.drop i) (m.drop k) = 1 + min (far (l.drop (i + 1)) (m.drop k)) (far (l.drop i) (m.drop (k + 1))) := by
  rw [drop_eq hx, drop_eq hy, far_cons, if_neg h, ← drop_eq hx, ← drop_eq hy]
theorem far_lt {l m : List ByteArray} (hl : l.length ≤ 60) (hm : m.length ≤ 60) (i k : Nat) : far (l.drop i) (m.drop k) ≤ 120 := by
  have := far_le (l.drop i) (m.drop k)
  simp only [List.length_drop] at this
  omega

set_option maxHeartbeats 800000 in
set_option maxRecDepth 100000 in
theorem measure_any (l m : List ByteArray) (v u : Value) (w : World) (h : Rdv w Never v l) (g : Rdv w Never u m) (hl : l.length ≤ 60) (hm : m.length ≤ 60) :
    Calls Tryz.prog 79 #[v, u] w fun e w' => e = .returned (.pointer (some ⟨w.heap.size, 0, none⟩)) ∧ Chg Never w w' ∧ Fil w.heap.size w' l m (-1) m.length := by
  obtain ⟨a, cap, rfl, h1, h2, h3⟩ := rdv_slice h
  obtain ⟨c, cap', rfl, g1, g2, g3⟩ := rdv_slice g
  unfold maxLen at h2 g2
  have hzt := zero_table
  go_enter Tryz.func79, Tryz.ntmps79
  go_wp2_with fail
  go_loopw [6, 7] (fun s6 s7 wr => ∃ x : Int, -1 ≤ x ∧ x ≤ l.length ∧ s6 = .int .i64 x ∧ Chg Never w wr ∧ Fil w.heap.size wr l m x m.length) (fun s6 _ _ => (intOf s6 + 1).toNat)
  case atStart => exact ⟨l.length, by omega, Int.le_refl _, rfl, (Chg.refl _ _).alloc _, Fil.start _ _ _⟩
  case round =>
    obtain ⟨x, hx1, hx2, rfl, hc, hF⟩ := hrel
    by_cases hx : 0 ≤ x
    · obtain ⟨i, rfl⟩ := Int.eq_ofNat_of_zero_le hx
      go_wp2_with fail
      go_loopw [7] (fun s7 wr' => ∃ y : Int, -1 ≤ y ∧ y ≤ m.length ∧ s7 = .int .i64 y ∧ Chg Never w wr' ∧ Fil w.heap.size wr' l m i y) (fun s7 _ => (intOf s7 + 1).toNat)
      case atStart => exact ⟨m.length, by omega, Int.le_refl _, rfl, hc, hF⟩
      case round =>
        rename_i wo _
        clear hF hc
        obtain ⟨y, hy1, hy2, rfl, hc, hF⟩ := hrel
        by_cases hy : 0 ≤ y
        · obtain ⟨k, rfl⟩ := Int.eq_ofNat_of_zero_le hy
          obtain ⟨n0, hn0⟩ := hF.any (j := i * 61 + k) (by omega)
          have hfr := hF.free (i * 61 + k)
          by_cases hil : i = l.length
          · have t1 : ((i : Int) == l.length) = true := by simp [hil]
            have HI := Lib.hid hil
            clear hil
            go_wp2_with fail
            go_roundw
            case rel => exact ⟨(k : Int) - 1, by omega, by omega, rfl, hc.setCell (.inl (Nat.le_refl _)) _, hF.set hl hm (by omega) (by omega) (far_end_l HI.out (by omega))⟩
            case measure => simp [intOf] <;> omega
          · have t1 : ((i : Int) == l.length) = false := by simp; omega
            by_cases hkm : k = m.length
            · have t2 : ((k : Int) == m.length) = true := by simp [hkm]
              have HK := Lib.hid hkm
              clear hkm
              go_wp2_with fail
              go_roundw
              case rel => exact ⟨(k : Int) - 1, by omega, by omega, rfl, hc.setCell (.inl (Nat.le_refl _)) _, hF.set hl hm (by omega) (by omega) (far_end_m HK.out (by omega))⟩
              case measure => simp [intOf] <;> omega
            · have t2 : ((k : Int) == m.length) = false := by simp; omega
              have b1 : (i : Int) < l.length := by omega
              have b2 : (k : Int) < m.length := by omega
              have b3 : i < l.length := by omega
              have b4 : k < m.length := by omega
              clear hil hkm
              obtain ⟨s, hs⟩ : ∃ s, l[i]? = some s := ⟨l[i], by simp [b3]⟩
              obtain ⟨t, ht⟩ : ∃ t, m[k]? = some t := ⟨m[k], by simp [b4]⟩
              obtain ⟨b, off, rfl, _, hbl, hcx, hxs⟩ := elems_str h3 hs
              obtain ⟨b', off', rfl, _, hbl', hcy, hys⟩ := elems_str g3 ht
              have hcx := hc.cellNever hcx
              have hcy := hc.cellNever hcy
              have HS := Lib.hid hs
              have HT := Lib.hid ht
              clear h3 g3 h g hs ht
              have c1 := hF.cell (i := i + 1) (k := k + 1) (by omega) (by omega) (by omega)
              have c2 := hF.cell (i := i + 1) (k := k) (by omega) (by omega) (by omega)
              have c3 := hF.cell (i := i) (k := k + 1) (by omega) (by omega) (by omega)
              have f2 := far_lt hl hm (i + 1) k
              have f3 := far_lt hl hm i (k + 1)
              by_cases hst : s = t
              · subst hst
                go_wp2_with fail
                go_quiet (fail)
                go_wp2_with fail
                generalize hw2 : World.drewN wr _ = w2
                have hc2 : Chg Never w w2 := hw2 ▸ hc.drewN _
                have hF2 : Fil w.heap.size w2 l m i k := hw2 ▸ hF.drewN _
                have hfr2 := hF2.free (i * 61 + k)
                have hn2 : w2.cell? ⟨w.heap.size, i * 61 + k, none⟩ = some (.int .i64 n0) := hw2 ▸ hn0
                have c1 := hF2.cell (i := i + 1) (k := k + 1) (by omega) (by omega) (by omega)
                have c2 := hF2.cell (i := i + 1) (k := k) (by omega) (by omega) (by omega)
                have c3 := hF2.cell (i := i) (k := k + 1) (by omega) (by omega) (by omega)
                clear hw2 hfr hn0 hc hF
                have e1 : IntKind.i64.wrap ((i : Int) + 1) = (i : Int) + 1 := IntWalk.i64_in _ (by omega)
                have e2 : IntKind.i64.wrap ((k : Int) + 1) = (k : Int) + 1 := IntWalk.i64_in _ (by omega)
                have e3 : (0 : Int) ≤ (i : Int) + 1 := by omega
                have e4 : (0 : Int) ≤ (k : Int) + 1 := by omega
                have e5 : (i : Int) + 1 < 61 := by omega
                have e6 : (k : Int) + 1 < 61 := by omega
                have e7 : ((i : Int) + 1).toNat = i + 1 := by omega
                have e8 : ((k : Int) + 1).toNat = k + 1 := by omega
                have e9 : (i : Int) < 61 := by omega
                have e10 : (k : Int) < 61 := by omega
                refine wp_region_still_tail 11 (by kernel_rfl) (by kernel_rfl) ?_
                simp only [List.take_succ_cons, List.take_zero, List.drop_succ_cons, List.drop_zero]
                change wpStill _ _ w2.drew _ _ _
                repeat still_step
                refine wpStill_nil ?_
                change wpList _ _ _ _ _ w2.drew
                have hn3 : w2.drew.cell? ⟨w.heap.size, i * 61 + k, none⟩ = some (.int .i64 n0) := hn2
                have hfr3 : w2.drew.frozen? ⟨w.heap.size, i * 61 + k, none⟩ = false := hfr2
                generalize hw3 : w2.drew = w3 at hn3 hfr3
                go_wp2_with fail
                clear e1 e2 e3 e4 e5 e6 e7 e8 e9 e10 c1 c2 c3
                have hc3 : Chg Never w w3 := hw3 ▸ hc2.drew
                have hF3 : Fil w.heap.size w3 l m i k := hw3 ▸ hF2.drew
                go_roundw
                case rel => exact ⟨(k : Int) - 1, by omega, by omega, rfl, hc3.setCell (.inl (Nat.le_refl _)) _, hF3.set hl hm (by omega) (by omega) (by rw [far_eq HS.out HT.out])⟩
                case measure => simp [intOf] <;> omega
              · have hne := str_beq_false hst
                go_wp2_with fail
                go_quiet (fail)
                go_wp2_with fail
                generalize hw2 : World.drewN wr _ = w2
                have hc2 : Chg Never w w2 := hw2 ▸ hc.drewN _
                have hF2 : Fil w.heap.size w2 l m i k := hw2 ▸ hF.drewN _
                have hfr2 := hF2.free (i * 61 + k)
                have hn2 : w2.cell? ⟨w.heap.size, i * 61 + k, none⟩ = some (.int .i64 n0) := hw2 ▸ hn0
                have c1 := hF2.cell (i := i + 1) (k := k + 1) (by omega) (by omega) (by omega)
                have c2 := hF2.cell (i := i + 1) (k := k) (by omega) (by omega) (by omega)
                have c3 := hF2.cell (i := i) (k := k + 1) (by omega) (by omega) (by omega)
                clear hw2 hfr hn0 hc hF
                have e1 : IntKind.i64.wrap ((i : Int) + 1) = (i : Int) + 1 := IntWalk.i64_in _ (by omega)
                have e2 : IntKind.i64.wrap ((k : Int) + 1) = (k : Int) + 1 := IntWalk.i64_in _ (by omega)
                have e3 : (0 : Int) ≤ (i : Int) + 1 := by omega
                have e4 : (0 : Int) ≤ (k : Int) + 1 := by omega
                have e5 : (i : Int) + 1 < 61 := by omega
                have e6 : (k : Int) + 1 < 61 := by omega
                have e7 : ((i : Int) + 1).toNat = i + 1 := by omega
                have e8 : ((k : Int) + 1).toNat = k + 1 := by omega
                have e9 : (i : Int) < 61 := by omega
                have e10 : (k : Int) < 61 := by omega
                refine wp_region_still_tail 18 (by kernel_rfl) (by kernel_rfl) ?_
                simp only [List.take_succ_cons, List.take_zero, List.drop_succ_cons, List.drop_zero]
                change wpStill _ _ w2.drew _ _ _
                repeat still_step
                refine wpStill_nil ?_
                change wpList _ _ _ _ _ w2.drew
                have hn3 : w2.drew.cell? ⟨w.heap.size, i * 61 + k, none⟩ = some (.int .i64 n0) := hn2
                have hfr3 : w2.drew.frozen? ⟨w.heap.size, i * 61 + k, none⟩ = false := hfr2
                generalize hw3 : w2.drew = w3 at hn3 hfr3
                go_wp2_with fail
                clear e1 e2 e3 e4 e5 e6 e7 e8 e9 e10 c1 c2 c3
                have hc3 : Chg Never w w3 := hw3 ▸ hc2.drew
                have hF3 : Fil w.heap.size w3 l m i k := hw3 ▸ hF2.drew
                go_roundw
                case rel => exact ⟨(k : Int) - 1, by omega, by omega, rfl, hc3.setCell (.inl (Nat.le_refl _)) _, hF3.set hl hm (by omega) (by omega) (by rw [far_ne HS.out HT.out hst]; omega)⟩
                case measure => simp [intOf] <;> omega
        · obtain rfl : y = -1 := by omega
          go_wp2_with fail
          go_roundw
          case rel => exact ⟨(i : Int) - 1, by omega, by omega, rfl, hc, hF.row⟩
          case measure => simp [intOf] <;> omega
    · obtain rfl : x = -1 := by omega
      go_wp2_with fail
      go_ret
      exact ⟨rfl, hc, hF⟩
end Go.Proofs.YtmjpfoeaobdaeaaGreatDoor
namespace Go.Proofs.YtmjpfoeaobdaeaaGreatDoor
open Go.RowKit

theorem edit_check_any (l : List Mark) (v : Value) (w : World) (h : Rdv w Never v l) :
    Calls Tryz.prog 145 #[v] w fun e w' => e = .returned (errV (scriptFault l)) ∧ Chg Never w w' := by
  obtain ⟨a, cap, rfl, h1, h2, h3⟩ := rdv_slice h
  unfold maxLen at h2
  by_cases h4 : 120 < l.length
  · go_enter Tryz.func145, Tryz.ntmps145
    go_wp2
    go_ret
    exact ⟨by simp [scriptFault, h4, errV], Chg.refl _ _⟩
  · go_enter Tryz.func145, Tryz.ntmps145
    go_wp2
    go_loopw [12] (fun i wr => ∃ k : Nat, k ≤ l.length ∧ i = .int .i64 k ∧ Hid (firstOf markFault (l.drop k) = scriptFault l) ∧ Chg Never w wr) (fun i _ => l.length - (intOf i).toNat)
    case atStart => exact ⟨0, Nat.zero_le _, rfl, by simp [Hid, scriptFault, h4], Chg.refl _ _⟩
    case round =>
      obtain ⟨k, hk, rfl, hf, hc⟩ := hrel
      by_cases hlt : k < l.length
      · obtain ⟨x, hx⟩ : ∃ x, l[k]? = some x := ⟨l[k], by simp [hlt]⟩
        obtain ⟨b, off, rfl, _, _, c0, c1, s0, s1, hxs⟩ := elems_mark h3 hx
        have c0 := hc.cellNever c0
        have c1 := hc.cellNever c1
        have hd := Lib.hid (drop_eq hx)
        clear hx h3 h
        obtain ⟨sg, tx⟩ := x
        simp only at c0 c1 s0 s1 hxs
        by_cases hsg : sg = 32 ∨ sg = 45 ∨ sg = 43
        · have hmf : markFault ⟨sg, tx⟩ = lineFault tx := by rcases hsg with e | e | e <;> subst e <;> rfl
          have HM := Lib.hid hmf
          clear hmf
          by_cases hz : lineFault tx = 0
          · rcases hsg with rfl | rfl | rfl
            all_goals
              go_wp2_with (go_at_call 109; refine (one_any _ _ hxs).mono ?_; rintro e w' ⟨rfl, rfl⟩; rw [hz, errV_zero])
              go_roundw
              case rel => exact ⟨k + 1, by omega, by go_num, by have := hf.out; rw [hd.out, firstOf, HM.out, if_pos hz] at this; exact this, hc.alloc _⟩
              case measure => simp [intOf] <;> omega
          · rcases hsg with rfl | rfl | rfl
            all_goals
              go_wp2_with (go_at_call 109; refine (one_any _ _ hxs).mono ?_; rintro e w' ⟨rfl, rfl⟩; rw [errV_pos hz])
              go_ret
              have E : errV (scriptFault l) = errV (lineFault tx) := by rw [← hf.out, hd.out, firstOf, HM.out, if_neg hz]
              exact ⟨by rw [E, errV_pos hz]; rfl, hc.alloc _⟩
        · have t1 : (sg != 32) = true := by simp; omega
          have t2 : (sg != 45) = true := by simp; omega
          have t3 : (sg != 43) = true := by simp; omega
          have hmf : markFault ⟨sg, tx⟩ = 1 := by unfold markFault; rw [if_pos (by simp; omega)]
          have HM := Lib.hid hmf
          clear hmf hsg
          go_wp2_with fail
          go_ret
          have E : errV (scriptFault l) = errV 1 := by rw [← hf.out, hd.out, firstOf, HM.out, if_neg (by decide)]
          exact ⟨by rw [E]; rfl, hc.alloc _⟩
      · go_wp2
        go_ret
        exact ⟨by have := hf.out; rw [List.drop_of_length_le (by omega), firstOf] at this; rw [← this]; rfl, hc⟩

theorem elemOk_str : ElemOk Tryz.prog 25 9 1 := elemOk_of Tryz.underlying25 (z := .string ⟨#[]⟩) (b := 16) (by kernel_rfl) rfl (by decide)
theorem elemOk_mark : ElemOk Tryz.prog 102 148 2 := elemOk_of Tryz.underlying102 (z := .agg #[.int .u8 0, .string ⟨#[]⟩]) (b := 24) (by kernel_rfl) rfl (by decide)

theorem those_take {l : List Mark} {no : Int} {k : Nat} {x : Mark} (hx : l[k]? = some x) : those (l.take (k + 1)) no = if x.sign = no then those (l.take k) no else those (l.take k) no ++ [x.text] := by
  rw [List.take_add_one, hx]
  unfold those
  by_cases h : x.sign = no <;> simp [List.filter_append, h]
theorem those_le (l : List Mark) (no : Int) : (those l no).length ≤ l.length := by
  unfold those
  rw [List.length_map]
  exact List.length_filter_le _ _
theorem scriptFault_len {l : List Mark} (h : scriptFault l = 0) : l.length ≤ 120 := by
  unfold scriptFault at h
  by_cases h1 : 120 < l.length
  · simp [h1] at h
  · omega

def thoseR (l : List Mark) (no : Int) : List ByteArray := if scriptFault l = 0 then those l no else []

theorem those_any (l : List Mark) (no : Int) (v : Value) (w : World) (h : Rdv w Never v l) :
    Calls Tryz.prog 178 #[v, .int .u8 no] w fun e w' => ∃ r, e = .returned (.tuple #[r, errV (scriptFault l)]) ∧ Chg Never w w' ∧ Rdv w' (Old w.heap.size) r (thoseR l no) := by
  by_cases hz : scriptFault l = 0
  · have hlen := scriptFault_len hz
    obtain ⟨a, cap, rfl, h1, h2, h3⟩ := rdv_slice h
    unfold maxLen at h2
    have HT : Hid (thoseR l no = those l no) := if_pos hz
    go_enter Tryz.func178, Tryz.ntmps178
    go_wp2_with fail
    refine (edit_check_any l _ _ h).mono ?_
    rintro e w1 ⟨rfl, hc1⟩
    rw [hz, errV_zero]
    have HZ := Lib.hid hz
    clear hz
    go_wp2_with fail
    go_loopw [7, 17] (fun o i wr => ∃ k : Nat, k ≤ l.length ∧ i = .int .i64 k ∧ Chg Never w wr ∧ Own 9 wr (Old w.heap.size) o (those (l.take k) no)) (fun _ i _ => l.length - (intOf i).toNat)
    case atStart => exact ⟨0, Nat.zero_le _, rfl, hc1, own_nil _ _ _⟩
    case round =>
      obtain ⟨k, hk, rfl, hc, hown⟩ := hrel
      by_cases hlt : k < l.length
      · obtain ⟨x, hx⟩ : ∃ x, l[k]? = some x := ⟨l[k], by simp [hlt]⟩
        obtain ⟨b, off, rfl, _, _, c0, c1, s0, s1, hxs⟩ := elems_mark h3 hx
        have c0 := hc.cellNever c0
        have c1 := hc.cellNever c1
        have ht := Lib.hid (those_take (no := no) hx)
        have hle := those_le (l.take k) no
        have hle2 : (l.take k).length ≤ 120 := by simp; omega
        clear hx h3 h
        obtain ⟨sg, tx⟩ := x
        simp only at c0 c1 s0 s1 hxs
        by_cases hs : sg = no
        · have t1 : (sg != no) = false := by simp [hs]
          have HS := Lib.hid hs
          clear hs hle hle2
          go_wp2_with fail
          go_roundw
          case rel => exact ⟨k + 1, by omega, by go_num, hc.alloc _, by rw [ht.out, if_pos HS.out]; exact hown.never ((Chg.refl _ _).alloc _)⟩
          case measure => simp [intOf] <;> omega
        · have t1 : (sg != no) = true := by simp [hs]
          have HS := Lib.hid hs
          clear hs
          go_wp2_with (at_builtin; refine wpList_push rfl _ _ 25 rfl elemOk_str (O := Old w.heap.size) (l := those (l.take k) no) (y := tx) rfl rfl (by simp) (hown.never ((Chg.refl _ _).alloc _)) ⟨rfl, hxs⟩ (old_lt (hc.alloc _)) (by omega) ?_; intro v' w2 hown2 hc2 _)
          have hc3 := own_step (hc.alloc _) (hown.never ((Chg.refl _ _).alloc _)) hc2
          clear hc2 hle hle2
          go_wp2_with fail
          go_roundw
          case rel => exact ⟨k + 1, by omega, by go_num, hc3, by rw [ht.out, if_neg HS.out]; exact hown2⟩
          case measure => simp [intOf] <;> omega
      · go_wp2_with fail
        go_ret2
        refine ⟨_, by rw [HZ.out]; rfl, hc, ?_⟩
        rw [HT.out]
        rw [List.take_of_length_le (by omega)] at hown
        exact hown.rdv
  · go_enter Tryz.func178, Tryz.ntmps178
    go_wp2_with fail
    refine (edit_check_any l _ _ h).mono ?_
    rintro e w1 ⟨rfl, hc1⟩
    rw [errV_pos hz]
    go_wp2_with fail
    go_ret2
    exact ⟨.slice none 0 0, by rw [errV_pos hz]; rfl, hc1, by unfold thoseR; rw [if_neg hz]; exact rdv_nil _ _⟩
end Go.Proofs.YtmjpfoeaobdaeaaGreatDoor
namespace Go.Proofs.YtmjpfoeaobdaeaaGreatDoor
open Go.RowKit

theorem old_any (l : List Mark) (v : Value) (w : World) (h : Rdv w Never v l) :
    Calls Tryz.prog 166 #[v] w fun e w' => ∃ r, e = .returned (.tuple #[r, errV (scriptFault l)]) ∧ Chg Never w w' ∧ Rdv w' (Old w.heap.size) r (thoseR l 43) := by
  go_enter Tryz.func166, Tryz.ntmps166
  go_wp2_with fail
  refine (those_any l 43 _ _ h).mono ?_
  rintro e w1 ⟨r, rfl, hc, hr⟩
  go_wp2_with fail
  go_ret2
  exact ⟨r, rfl, hc, hr⟩
theorem new_any (l : List Mark) (v : Value) (w : World) (h : Rdv w Never v l) :
    Calls Tryz.prog 167 #[v] w fun e w' => ∃ r, e = .returned (.tuple #[r, errV (scriptFault l)]) ∧ Chg Never w w' ∧ Rdv w' (Old w.heap.size) r (thoseR l 45) := by
  go_enter Tryz.func167, Tryz.ntmps167
  go_wp2_with fail
  refine (those_any l 45 _ _ h).mono ?_
  rintro e w1 ⟨r, rfl, hc, hr⟩
  go_wp2_with fail
  go_ret2
  exact ⟨r, rfl, hc, hr⟩

end Go.Proofs.YtmjpfoeaobdaeaaGreatDoor
namespace Go.Proofs.YtmjpfoeaobdaeaaGreatDoor
open Go.RowKit

theorem script_keep {l m : List ByteArray} {i k : Nat} {x : ByteArray} (hx : l[i]? = some x) (hy : m[k]? = some x) : script (l.drop i) (m.drop k) = ⟨32, x⟩ :: script (l.drop (i + 1)) (m.drop (k + 1)) := by
  rw [drop_eq hx, drop_eq hy, script, if_pos rfl]
theorem script_take {l m : List ByteArray} {i k : Nat} {x : ByteArray} (hx : l[i]? = some x) (hy : ∀ y, m[k]? = some y → x ≠ y) (h : far (l.drop (i + 1)) (m.drop k) + 1 = far (l.drop i) (m.drop k)) :
    script (l.drop i) (m.drop k) = ⟨45, x⟩ :: script (l.drop (i + 1)) (m.drop k) := by
  rcases Nat.lt_or_ge k m.length with hk | hk
  · have hm : m[k]? = some m[k] := by simp [hk]
    rw [drop_eq hx] at h ⊢
    rw [drop_eq hm] at h ⊢
    rw [script, if_neg (hy _ hm), if_pos h]
  · rw [List.drop_of_length_le hk, drop_eq hx, script]
theorem script_put {l m : List ByteArray} {i k : Nat} {y : ByteArray} (hy : m[k]? = some y) (hx : ∀ x, l[i]? = some x → x ≠ y ∧ far (l.drop (i + 1)) (m.drop k) + 1 ≠ far (l.drop i) (m.drop k)) :
    script (l.drop i) (m.drop k) = ⟨43, y⟩ :: script (l.drop i) (m.drop (k + 1)) := by
  rcases Nat.lt_or_ge i l.length with hi | hi
  · have hl : l[i]? = some l[i] := by simp [hi]
    obtain ⟨h1, h2⟩ := hx _ hl
    rw [drop_eq hl] at h2 ⊢
    rw [drop_eq hy] at h2 ⊢
    rw [script, if_neg h1, if_neg h2]
  · rw [List.drop_of_length_le hi, drop_eq hy, script]

theorem Fil.keep {T : Nat} {wr w' : World} {l m : List ByteArray} {x y : Int} {O : Nat → Prop} (h : Fil T wr l m x y) (hc : Chg O wr w') (hT : ¬ O T) : Fil T w' l m x y := by
  obtain ⟨c, h1, h2⟩ := h
  refine ⟨c, ?_, h2⟩
  rw [hc.block T (Array.getElem?_eq_some_iff.1 h1).1 hT]
  exact h1
theorem own_step' {α : Type} [Dat α] {e : TypeId} {w wr w' : World} {v : Value} {l : List α} {B : Nat} (hc : Chg Never w wr) (hB : w.heap.size ≤ B) (hown : Own e wr (Old B) v l) (hc' : Chg (OwnB v) wr w') : Chg Never w w' := by
  refine hc.trans' hc' ?_
  intro i hi ho
  obtain ⟨xs, _, hb, _⟩ := hown
  exact (hb i ho (Nat.lt_of_lt_of_le hi hB)).elim
theorem own_not {α : Type} [Dat α] {e : TypeId} {wr : World} {v : Value} {l : List α} {B k : Nat} (hown : Own e wr (Old B) v l) (hk : k < B) : ¬ OwnB v k := by
  obtain ⟨xs, _, hb, _⟩ := hown
  exact fun h => hb k h hk

theorem rd_mark (w : World) (O : Nat → Prop) (sg : Int) (tx : ByteArray) (h0 : 0 ≤ sg) (h1 : sg < 256) (h2 : tx.size ≤ maxLen) : Dat.rd w O [.int .u8 sg, .string tx] (⟨sg, tx⟩ : Mark) := ⟨rfl, h0, h1, h2⟩

def scriptR (l m : List ByteArray) : List Mark := if checkedFault l m = 0 then script l m else []


set_option maxHeartbeats 1000000 in
set_option maxRecDepth 100000 in
theorem script_ok (l m : List ByteArray) (v u : Value) (w : World) (h : Rdv w Never v l) (g : Rdv w Never u m) (hz : checkedFault l m = 0) :
    Calls Tryz.prog 117 #[v, u] w fun e w' => ∃ r, e = .returned (.tuple #[r, .nilIface]) ∧ Chg Never w w' ∧ Rdv w' (Old w.heap.size) r (script l m) := by
  have hlm := checkedFault_zero.1 hz
  have hl := linesFault_len hlm.1
  have hm := linesFault_len hlm.2
  obtain ⟨a, cap, rfl, h1, h2, h3⟩ := rdv_slice h
  obtain ⟨c, cap', rfl, g1, g2, g3⟩ := rdv_slice g
  unfold maxLen at h2 g2
  go_enter Tryz.func117, Tryz.ntmps117
  go_wp2_with fail
  refine (checked_any l m _ _ _ h g).mono ?_
  rintro e w' ⟨rfl, rfl⟩
  rw [hz, errV_zero]
  clear hz hlm
  go_wp2_with fail
  refine (measure_any l m _ _ _ h g hl hm).mono ?_
  rintro e w1 ⟨rfl, hc1, hF1⟩
  go_wp2_with fail
  go_loopw [8, 9, 10] (fun o s9 s10 wr => ∃ (i k : Nat) (pre : List Mark), i ≤ l.length ∧ k ≤ m.length ∧ s9 = .int .i64 i ∧ s10 = .int .i64 k ∧ Chg Never w wr ∧ Fil w.heap.size wr l m (-1) m.length ∧
      Own 148 wr (Old (w.heap.size + 1)) o pre ∧ Hid (pre.length ≤ i + k) ∧ Hid (pre ++ script (l.drop i) (m.drop k) = script l m)) (fun _ s9 s10 _ => (l.length - (intOf s9).toNat) + (m.length - (intOf s10).toNat))
  case atStart => exact ⟨0, 0, [], Nat.zero_le _, Nat.zero_le _, rfl, rfl, hc1, hF1, own_nil _ _ _, Nat.zero_le _, by simp [Hid]⟩
  case round =>
    clear hc1 hF1
    obtain ⟨i, k, pre, hi, hk, rfl, rfl, hc, hF, hown, hpl0, hpre⟩ := hrel
    have hpl : pre.length ≤ 120 := by have := hpl0.out; omega
    have hO : ∀ k, Old (w.heap.size + 1) k → k < wr.heap.size := by
      obtain ⟨cc, hcc, _⟩ := hF
      have := (Array.getElem?_eq_some_iff.1 hcc).1
      intro k hk
      unfold Old at hk
      omega
    have f1 := far_lt hl hm (i + 1) k
    have f2 := far_lt hl hm i k
    by_cases hil : i < l.length
    · obtain ⟨s, hs⟩ : ∃ s, l[i]? = some s := ⟨l[i], by simp [hil]⟩
      obtain ⟨b, off, rfl, _, hbl, hcx, hxs⟩ := elems_str h3 hs
      have hcx := hc.cellNever hcx
      have HS := Lib.hid hs
      have b1 : (i : Int) < l.length := by omega
      have d1 := hF.cell (i := i + 1) (k := k) (by omega) (by omega) (by omega)
      have d2 := hF.cell (i := i) (k := k) (by omega) (by omega) (by omega)
      have e1 : IntKind.i64.wrap ((i : Int) + 1) = (i : Int) + 1 := IntWalk.i64_in _ (by omega)
      have e3 : (0 : Int) ≤ (i : Int) + 1 := by omega
      have e5 : (i : Int) + 1 < 61 := by omega
      have e7 : ((i : Int) + 1).toNat = i + 1 := by omega
      have e9 : (i : Int) < 61 := by omega
      have e10 : (k : Int) < 61 := by omega
      have e11 : IntKind.i64.wrap ((far (l.drop (i + 1)) (m.drop k) : Int) + 1) = (far (l.drop (i + 1)) (m.drop k) : Int) + 1 := IntWalk.i64_in _ (by omega)
      by_cases hkm : k < m.length
      · obtain ⟨t, ht⟩ : ∃ t, m[k]? = some t := ⟨m[k], by simp [hkm]⟩
        obtain ⟨b', off', rfl, _, hbl', hcy, hys⟩ := elems_str g3 ht
        have hcy := hc.cellNever hcy
        have HT := Lib.hid ht
        have b2 : (k : Int) < m.length := by omega
        clear h3 g3 h g hs ht
        by_cases hst : s = t
        · subst hst
          clear e1 e3 e5 e7 e9 e10 e11 d1 d2
          go_wp2_with fail
          go_quiet (fail)
          generalize hw2 : World.drewN wr _ = wr2
          have hc : Chg Never w wr2 := hw2 ▸ hc.drewN _
          have hF : Fil w.heap.size wr2 l m (-1) m.length := hw2 ▸ hF.drewN _
          have hown : Own 148 wr2 (Old (w.heap.size + 1)) _ pre := hw2 ▸ hown.never ((Chg.refl _ wr).drewN _)
          have hO : ∀ k, Old (w.heap.size + 1) k → k < (wr2).heap.size := hw2 ▸ hO
          have hcx : wr2.cell? ⟨b, off + i, none⟩ = some (.string s) := hw2 ▸ hcx
          have hcy : wr2.cell? ⟨b', off' + k, none⟩ = some (.string s) := hw2 ▸ hcy
          clear hw2
          go_wp2_with (at_builtin; refine wpList_push rfl _ _ 102 rfl elemOk_mark (O := Old (w.heap.size + 1)) (l := pre) (y := ⟨32, s⟩) rfl rfl rfl hown (rd_mark _ _ 32 s (by decide) (by decide) (by assumption)) hO (by omega) ?_; intro v' w5 hown2 hc2 _)
          have hc3 := own_step' hc (Nat.le_succ _) hown hc2
          have hF3 := hF.keep hc2 (own_not hown (Nat.lt_succ_self _))
          clear hc2 hc hF hown
          go_wp2_with fail
          go_roundw
          case rel => exact ⟨i + 1, k + 1, _, by omega, by omega, by go_num, by go_num, hc3, hF3, hown2, by have := hpl0.out; show (pre ++ [_]).length ≤ _; simp; omega, by have := hpre.out; rw [script_keep HS.out HT.out] at this; rw [Hid, ← this]; simp⟩
          case measure => simp [intOf] <;> omega
        · have hne := str_beq_false hst
          have HST := Lib.hid hst
          clear hst
          by_cases htk : far (l.drop (i + 1)) (m.drop k) + 1 = far (l.drop i) (m.drop k)
          · have t1 : ((far (l.drop (i + 1)) (m.drop k) : Int) + 1 == far (l.drop i) (m.drop k)) = true := by simp; omega
            have HTK := Lib.hid htk
            clear htk
            go_wp2_with fail
            go_quiet (fail)
            generalize hw2 : World.drewN wr _ = wr2
            have hc : Chg Never w wr2 := hw2 ▸ hc.drewN _
            have hF : Fil w.heap.size wr2 l m (-1) m.length := hw2 ▸ hF.drewN _
            have hown : Own 148 wr2 (Old (w.heap.size + 1)) _ pre := hw2 ▸ hown.never ((Chg.refl _ wr).drewN _)
            have hO : ∀ k, Old (w.heap.size + 1) k → k < (wr2).heap.size := hw2 ▸ hO
            have hcx : wr2.cell? ⟨b, off + i, none⟩ = some (.string s) := hw2 ▸ hcx
            have d1 : wr2.cell? ⟨w.heap.size, (i + 1) * 61 + k, none⟩ = some (.int .i64 (far (l.drop (i + 1)) (m.drop k))) := hw2 ▸ d1
            have d2 : wr2.cell? ⟨w.heap.size, i * 61 + k, none⟩ = some (.int .i64 (far (l.drop i) (m.drop k))) := hw2 ▸ d2
            clear hw2
            go_wp2_with fail
            go_quiet (fail)
            clear e1 e3 e5 e7 e9 e10 e11 d1 d2
            generalize hw2 : World.drewN wr2 _ = wr3
            have hc : Chg Never w wr3 := hw2 ▸ hc.drewN _
            have hF : Fil w.heap.size wr3 l m (-1) m.length := hw2 ▸ hF.drewN _
            have hown : Own 148 wr3 (Old (w.heap.size + 1)) _ pre := hw2 ▸ hown.never ((Chg.refl _ wr2).drewN _)
            have hO : ∀ k, Old (w.heap.size + 1) k → k < (wr3).heap.size := hw2 ▸ hO
            have hcx : wr3.cell? ⟨b, off + i, none⟩ = some (.string s) := hw2 ▸ hcx
            clear hw2
            go_wp2_with (at_builtin; refine wpList_push rfl _ _ 102 rfl elemOk_mark (O := Old (w.heap.size + 1)) (l := pre) (y := ⟨45, s⟩) rfl rfl rfl hown (rd_mark _ _ 45 s (by decide) (by decide) (by assumption)) hO (by omega) ?_; intro v' w5 hown2 hc2 _)
            have hc3 := own_step' hc (Nat.le_succ _) hown hc2
            have hF3 := hF.keep hc2 (own_not hown (Nat.lt_succ_self _))
            clear hc2 hc hF hown
            go_wp2_with fail
            go_roundw
            case rel => exact ⟨i + 1, k, _, by omega, by omega, by go_num, by go_num, hc3, hF3, hown2, by have := hpl0.out; show (pre ++ [_]).length ≤ _; simp; omega, by have := hpre.out; rw [script_take HS.out (fun y hy => by rw [HT.out] at hy; injection hy with hy; subst hy; exact HST.out) HTK.out] at this; rw [Hid, ← this]; simp⟩
            case measure => simp [intOf] <;> omega
          · have t1 : ((far (l.drop (i + 1)) (m.drop k) : Int) + 1 == far (l.drop i) (m.drop k)) = false := by simp; omega
            have HTK := Lib.hid htk
            clear htk
            go_wp2_with fail
            go_quiet (fail)
            generalize hw2 : World.drewN wr _ = wr2
            have hc : Chg Never w wr2 := hw2 ▸ hc.drewN _
            have hF : Fil w.heap.size wr2 l m (-1) m.length := hw2 ▸ hF.drewN _
            have hown : Own 148 wr2 (Old (w.heap.size + 1)) _ pre := hw2 ▸ hown.never ((Chg.refl _ wr).drewN _)
            have hO : ∀ k, Old (w.heap.size + 1) k → k < (wr2).heap.size := hw2 ▸ hO
            have hcy : wr2.cell? ⟨b', off' + k, none⟩ = some (.string t) := hw2 ▸ hcy
            have d1 : wr2.cell? ⟨w.heap.size, (i + 1) * 61 + k, none⟩ = some (.int .i64 (far (l.drop (i + 1)) (m.drop k))) := hw2 ▸ d1
            have d2 : wr2.cell? ⟨w.heap.size, i * 61 + k, none⟩ = some (.int .i64 (far (l.drop i) (m.drop k))) := hw2 ▸ d2
            clear hw2
            go_wp2_with fail
            go_quiet (fail)
            clear e1 e3 e5 e7 e9 e10 e11 d1 d2
            generalize hw2 : World.drewN wr2 _ = wr3
            have hc : Chg Never w wr3 := hw2 ▸ hc.drewN _
            have hF : Fil w.heap.size wr3 l m (-1) m.length := hw2 ▸ hF.drewN _
            have hown : Own 148 wr3 (Old (w.heap.size + 1)) _ pre := hw2 ▸ hown.never ((Chg.refl _ wr2).drewN _)
            have hO : ∀ k, Old (w.heap.size + 1) k → k < (wr3).heap.size := hw2 ▸ hO
            have hcy : wr3.cell? ⟨b', off' + k, none⟩ = some (.string t) := hw2 ▸ hcy
            clear hw2
            go_wp2_with (at_builtin; refine wpList_push rfl _ _ 102 rfl elemOk_mark (O := Old (w.heap.size + 1)) (l := pre) (y := ⟨43, t⟩) rfl rfl rfl hown (rd_mark _ _ 43 t (by decide) (by decide) (by assumption)) hO (by omega) ?_; intro v' w5 hown2 hc2 _)
            have hc3 := own_step' hc (Nat.le_succ _) hown hc2
            have hF3 := hF.keep hc2 (own_not hown (Nat.lt_succ_self _))
            clear hc2 hc hF hown
            go_wp2_with fail
            go_roundw
            case rel => exact ⟨i, k + 1, _, by omega, by omega, by go_num, by go_num, hc3, hF3, hown2, by have := hpl0.out; show (pre ++ [_]).length ≤ _; simp; omega, by have := hpre.out; rw [script_put HT.out (fun x hx => by rw [HS.out] at hx; injection hx with hx; subst hx; exact ⟨HST.out, HTK.out⟩)] at this; rw [Hid, ← this]; simp⟩
            case measure => simp [intOf] <;> omega
      · obtain rfl : k = m.length := by omega
        have g2' : decide ((m.length : Int) < m.length) = false := by simp
        rw [List.drop_length] at d1 d2 e11 f1 f2
        have htk : far (l.drop (i + 1)) [] + 1 = far (l.drop i) [] := by
          rw [far_nil', far_nil', List.length_drop, List.length_drop]; omega
        have t1 : ((far (l.drop (i + 1)) [] : Int) + 1 == far (l.drop i) []) = true := by rw [beq_iff_eq]; omega
        have HTK := Lib.hid htk
        clear htk hs h3 g3 h g
        go_wp2_with fail
        go_quiet (fail)
        generalize hw2 : World.drewN wr _ = wr2
        have hc : Chg Never w wr2 := hw2 ▸ hc.drewN _
        have hF : Fil w.heap.size wr2 l m (-1) m.length := hw2 ▸ hF.drewN _
        have hown : Own 148 wr2 (Old (w.heap.size + 1)) _ pre := hw2 ▸ hown.never ((Chg.refl _ wr).drewN _)
        have hO : ∀ k, Old (w.heap.size + 1) k → k < (wr2).heap.size := hw2 ▸ hO
        have hcx : wr2.cell? ⟨b, off + i, none⟩ = some (.string s) := hw2 ▸ hcx
        have d1 : wr2.cell? ⟨w.heap.size, (i + 1) * 61 + m.length, none⟩ = some (.int .i64 (far (l.drop (i + 1)) [])) := hw2 ▸ d1
        have d2 : wr2.cell? ⟨w.heap.size, i * 61 + m.length, none⟩ = some (.int .i64 (far (l.drop i) [])) := hw2 ▸ d2
        clear hw2
        go_wp2_with fail
        go_quiet (fail)
        clear e1 e3 e5 e7 e9 e10 e11 d1 d2
        generalize hw2 : World.drewN wr2 _ = wr3
        have hc : Chg Never w wr3 := hw2 ▸ hc.drewN _
        have hF : Fil w.heap.size wr3 l m (-1) m.length := hw2 ▸ hF.drewN _
        have hown : Own 148 wr3 (Old (w.heap.size + 1)) _ pre := hw2 ▸ hown.never ((Chg.refl _ wr2).drewN _)
        have hO : ∀ k, Old (w.heap.size + 1) k → k < (wr3).heap.size := hw2 ▸ hO
        have hcx : wr3.cell? ⟨b, off + i, none⟩ = some (.string s) := hw2 ▸ hcx
        clear hw2
        go_wp2_with (at_builtin; refine wpList_push rfl _ _ 102 rfl elemOk_mark (O := Old (w.heap.size + 1)) (l := pre) (y := ⟨45, s⟩) rfl rfl rfl hown (rd_mark _ _ 45 s (by decide) (by decide) (by assumption)) hO (by omega) ?_; intro v' w5 hown2 hc2 _)
        have hc3 := own_step' hc (Nat.le_succ _) hown hc2
        have hF3 := hF.keep hc2 (own_not hown (Nat.lt_succ_self _))
        clear hc2 hc hF hown
        go_wp2_with fail
        go_roundw
        case rel => exact ⟨i + 1, m.length, _, by omega, by omega, by go_num, by go_num, hc3, hF3, hown2, by have := hpl0.out; show (pre ++ [_]).length ≤ _; simp; omega, by have := hpre.out; rw [script_take HS.out (fun y hy => by simp at hy) (by rw [List.drop_length]; exact HTK.out)] at this; rw [Hid, ← this]; simp⟩
        case measure => simp [intOf] <;> omega
    · obtain rfl : i = l.length := by omega
      have g1' : decide ((l.length : Int) < l.length) = false := by simp
      by_cases hkm : k < m.length
      · obtain ⟨t, ht⟩ : ∃ t, m[k]? = some t := ⟨m[k], by simp [hkm]⟩
        obtain ⟨b', off', rfl, _, hbl', hcy, hys⟩ := elems_str g3 ht
        have hcy := hc.cellNever hcy
        have HT := Lib.hid ht
        have b2 : (k : Int) < m.length := by omega
        clear h3 g3 h g ht f1 f2
        go_wp2_with fail
        go_quiet (fail)
        generalize hw2 : World.drewN wr _ = wr2
        have hc : Chg Never w wr2 := hw2 ▸ hc.drewN _
        have hF : Fil w.heap.size wr2 l m (-1) m.length := hw2 ▸ hF.drewN _
        have hown : Own 148 wr2 (Old (w.heap.size + 1)) _ pre := hw2 ▸ hown.never ((Chg.refl _ wr).drewN _)
        have hO : ∀ k, Old (w.heap.size + 1) k → k < (wr2).heap.size := hw2 ▸ hO
        have hcy : wr2.cell? ⟨b', off' + k, none⟩ = some (.string t) := hw2 ▸ hcy
        clear hw2
        go_wp2_with fail
        go_quiet (fail)
        generalize hw2 : World.drewN wr2 _ = wr3
        have hc : Chg Never w wr3 := hw2 ▸ hc.drewN _
        have hF : Fil w.heap.size wr3 l m (-1) m.length := hw2 ▸ hF.drewN _
        have hown : Own 148 wr3 (Old (w.heap.size + 1)) _ pre := hw2 ▸ hown.never ((Chg.refl _ wr2).drewN _)
        have hO : ∀ k, Old (w.heap.size + 1) k → k < (wr3).heap.size := hw2 ▸ hO
        have hcy : wr3.cell? ⟨b', off' + k, none⟩ = some (.string t) := hw2 ▸ hcy
        clear hw2
        go_wp2_with (at_builtin; refine wpList_push rfl _ _ 102 rfl elemOk_mark (O := Old (w.heap.size + 1)) (l := pre) (y := ⟨43, t⟩) rfl rfl rfl hown (rd_mark _ _ 43 t (by decide) (by decide) (by assumption)) hO (by omega) ?_; intro v' w5 hown2 hc2 _)
        have hc3 := own_step' hc (Nat.le_succ _) hown hc2
        have hF3 := hF.keep hc2 (own_not hown (Nat.lt_succ_self _))
        clear hc2 hc hF hown
        go_wp2_with fail
        go_roundw
        case rel => exact ⟨l.length, k + 1, _, by omega, by omega, by go_num, by go_num, hc3, hF3, hown2, by have := hpl0.out; show (pre ++ [_]).length ≤ _; simp; omega, by have := hpre.out; rw [script_put HT.out (fun x hx => by simp at hx)] at this; rw [Hid, ← this]; simp⟩
        case measure => simp [intOf] <;> omega
      · obtain rfl : k = m.length := by omega
        go_wp2_with fail
        go_ret2
        have E : pre = script l m := by have := hpre.out; rw [List.drop_length, List.drop_length, script, List.append_nil] at this; exact this
        exact ⟨_, rfl, hc, E ▸ hown.rdv.sub (fun k _ hk => by unfold Old at *; omega)⟩

theorem script_any (l m : List ByteArray) (v u : Value) (w : World) (h : Rdv w Never v l) (g : Rdv w Never u m) :
    Calls Tryz.prog 117 #[v, u] w fun e w' => ∃ r, e = .returned (.tuple #[r, errV (checkedFault l m)]) ∧ Chg Never w w' ∧ Rdv w' (Old w.heap.size) r (scriptR l m) := by
  by_cases hz : checkedFault l m = 0
  · refine (script_ok l m v u w h g hz).mono ?_
    rintro e w' ⟨r, rfl, hc, hr⟩
    exact ⟨r, by rw [hz, errV_zero], hc, by unfold scriptR; rw [if_pos hz]; exact hr⟩
  · go_enter Tryz.func117, Tryz.ntmps117
    go_wp2_with fail
    refine (checked_any l m _ _ _ h g).mono ?_
    rintro e w' ⟨rfl, rfl⟩
    rw [errV_pos hz]
    go_wp2_with fail
    go_ret2
    exact ⟨.slice none 0 0, by rw [errV_pos hz]; rfl, Chg.refl _ _, by unfold scriptR; rw [if_neg hz]; exact rdv_nil _ _⟩

theorem linesFault_zero {l : List ByteArray} : linesFault l = 0 ↔ l.length ≤ 60 ∧ ∀ x ∈ l, lineFault x = 0 := by
  unfold linesFault
  by_cases h : 60 < l.length
  · simp [h]; omega
  · simp only [if_neg h, firstOf_zero]
    exact ⟨fun h' => ⟨by omega, h'⟩, fun h' => h'.2⟩
theorem scriptFault_zero {l : List Mark} : scriptFault l = 0 ↔ l.length ≤ 120 ∧ ∀ x ∈ l, markFault x = 0 := by
  unfold scriptFault
  by_cases h : 120 < l.length
  · simp [h]; omega
  · simp only [if_neg h, firstOf_zero]
    exact ⟨fun h' => ⟨by omega, h'⟩, fun h' => h'.2⟩
theorem script_mem : ∀ (n : Nat) (a b : List ByteArray), a.length + b.length = n → (script a b).length ≤ n ∧ ∀ x ∈ script a b, x.text ∈ a ∨ x.text ∈ b := by
  intro n
  induction n using Nat.strongRecOn with
  | _ n ih =>
    intro a b hn
    match a, b with
    | [], [] => rw [script]; simp
    | x :: a, [] =>
      obtain ⟨h1, h2⟩ := ih (n - 1) (by simp only [List.length_cons, List.length_nil] at hn ⊢; omega) a [] (by simp only [List.length_cons, List.length_nil] at hn ⊢; omega)
      rw [script]
      simp only [List.length_cons, List.length_nil] at hn ⊢
      refine ⟨by omega, ?_⟩
      intro y hy
      rcases List.mem_cons.1 hy with rfl | hy
      · simp
      · rcases h2 y hy with h | h <;> simp_all
    | [], y :: b =>
      obtain ⟨h1, h2⟩ := ih (n - 1) (by simp only [List.length_cons, List.length_nil] at hn ⊢; omega) [] b (by simp only [List.length_cons, List.length_nil] at hn ⊢; omega)
      rw [script]
      simp only [List.length_cons, List.length_nil] at hn ⊢
      refine ⟨by omega, ?_⟩
      intro z hz
      rcases List.mem_cons.1 hz with rfl | hz
      · simp
      · rcases h2 z hz with h | h <;> simp_all
    | x :: a, y :: b =>
      simp only [List.length_cons] at hn
      obtain ⟨p1, p2⟩ := ih (n - 2) (by omega) a b (by omega)
      obtain ⟨q1, q2⟩ := ih (n - 1) (by omega) a (y :: b) (by simp only [List.length_cons]; omega)
      obtain ⟨r1, r2⟩ := ih (n - 1) (by omega) (x :: a) b (by simp only [List.length_cons]; omega)
      rw [script]
      split
      · refine ⟨by simp only [List.length_cons]; omega, ?_⟩
        intro z hz
        rcases List.mem_cons.1 hz with rfl | hz
        · simp
        · rcases p2 z hz with h | h <;> simp [h]
      · split
        · refine ⟨by simp only [List.length_cons]; omega, ?_⟩
          intro z hz
          rcases List.mem_cons.1 hz with rfl | hz
          · simp
          · rcases q2 z hz with h | h
            · simp [h]
            · exact .inr h
        · refine ⟨by simp only [List.length_cons]; omega, ?_⟩
          intro z hz
          rcases List.mem_cons.1 hz with rfl | hz
          · simp
          · rcases r2 z hz with h | h
            · exact .inl h
            · simp [h]
theorem script_valid {a b : List ByteArray} (h : checkedFault a b = 0) : scriptFault (script a b) = 0 := by
  obtain ⟨h1, h2⟩ := checkedFault_zero.1 h
  rw [linesFault_zero] at h1 h2
  obtain ⟨s1, s2⟩ := script_mem _ a b rfl
  rw [scriptFault_zero]
  refine ⟨by omega, ?_⟩
  intro x hx
  have hs := script_signs a b x hx
  have ht : lineFault x.text = 0 := by
    rcases s2 x hx with h | h
    · exact h1.2 _ h
    · exact h2.2 _ h
  unfold markFault
  rw [if_neg (by omega), ht]
end Go.Proofs.YtmjpfoeaobdaeaaGreatDoor
namespace Go.Proofs.YtmjpfoeaobdaeaaGreatDoor
open Go.RowKit

theorem kept_any (sg : Int) (tx : ByteArray) (w : World) :
    Calls Tryz.prog 175 #[.agg #[.int .u8 sg, .string tx]] w fun e w' => e = .returned (.bool (sg == 32)) ∧ Chg Never w w' := by
  go_enter Tryz.func175, Tryz.ntmps175
  go_wp2
  go_ret
  exact ⟨rfl, by repeat (first | exact Chg.refl _ _ | apply Chg.alloc)⟩
theorem changed_any (sg : Int) (tx : ByteArray) (w : World) :
    Calls Tryz.prog 174 #[.agg #[.int .u8 sg, .string tx]] w fun e w' => e = .returned (.bool (!(sg == 32))) ∧ Chg Never w w' := by
  go_enter Tryz.func174, Tryz.ntmps174
  go_wp2_with (go_at_call 175; refine (kept_any _ _ _).mono ?_; rintro e w1 ⟨rfl, hc1⟩)
  go_ret
  exact ⟨rfl, ((Chg.refl _ _).alloc _).trans hc1⟩

theorem oldN_take {l : List Mark} {k : Nat} {x : Mark} (hx : l[k]? = some x) : oldN (l.take (k + 1)) = oldN (l.take k) + (if x.sign = 43 then 0 else 1) := by
  unfold oldN
  rw [those_take hx]
  by_cases h : x.sign = 43 <;> simp [h]
theorem newN_take {l : List Mark} {k : Nat} {x : Mark} (hx : l[k]? = some x) : newN (l.take (k + 1)) = newN (l.take k) + (if x.sign = 45 then 0 else 1) := by
  unfold newN
  rw [those_take hx]
  by_cases h : x.sign = 45 <;> simp [h]
theorem oldN_le (l : List Mark) : oldN l ≤ l.length := those_le _ _
theorem newN_le (l : List Mark) : newN l ≤ l.length := those_le _ _

theorem size_any (h : Hunk) (mv : Value) (w : World) (hm : Rdv w Never mv h.marks) :
    Calls Tryz.prog 133 #[.agg #[.int .i64 h.old, .int .i64 h.new, mv]] w fun e w' => e = .returned (.tuple #[.int .i64 (oldN h.marks), .int .i64 (newN h.marks)]) ∧ Chg Never w w' := by
  obtain ⟨o, n, l⟩ := h
  simp only at hm ⊢
  obtain ⟨a, cap, rfl, h1, h2, h3⟩ := rdv_slice hm
  unfold maxLen at h2
  go_enter Tryz.func133, Tryz.ntmps133
  go_wp2
  go_loopw [2, 3, 9] (fun s2 s3 i wr => ∃ k : Nat, k ≤ l.length ∧ i = .int .i64 k ∧ s2 = .int .i64 (oldN (l.take k)) ∧ s3 = .int .i64 (newN (l.take k)) ∧ Chg Never w wr) (fun _ _ i _ => l.length - (intOf i).toNat)
  case atStart => exact ⟨0, Nat.zero_le _, rfl, rfl, rfl, (Chg.refl _ _).alloc _⟩
  case round =>
    obtain ⟨k, hk, rfl, rfl, rfl, hc⟩ := hrel
    by_cases hlt : k < l.length
    · obtain ⟨x, hx⟩ : ∃ x, l[k]? = some x := ⟨l[k], by simp [hlt]⟩
      obtain ⟨b, off, rfl, _, _, c0, c1, s0, s1, hxs⟩ := elems_mark h3 hx
      have c0 := hc.cellNever c0
      have c1 := hc.cellNever c1
      have HO := Lib.hid (oldN_take hx)
      have HN := Lib.hid (newN_take hx)
      have l1 : oldN (l.take k) ≤ k := Nat.le_trans (oldN_le _) (List.length_take_le _ _)
      have l2 : newN (l.take k) ≤ k := Nat.le_trans (newN_le _) (List.length_take_le _ _)
      clear hx h3 hm
      obtain ⟨sg, tx⟩ := x
      simp only at c0 c1 s0 s1 hxs
      by_cases h43 : sg = 43
      · subst h43
        go_wp2
        go_roundw
        case rel => exact ⟨k + 1, by omega, by go_num, by rw [HO.out]; rfl, by rw [HN.out]; go_num, hc.alloc _⟩
        case measure => simp [intOf] <;> omega
      · have t1 : (sg != 43) = true := by simp [h43]
        by_cases h45 : sg = 45
        · subst h45
          go_wp2
          go_roundw
          case rel => exact ⟨k + 1, by omega, by go_num, by rw [HO.out]; go_num, by rw [HN.out]; rfl, hc.alloc _⟩
          case measure => simp [intOf] <;> omega
        · have t2 : (sg != 45) = true := by simp [h45]
          have H43 := Lib.hid h43
          have H45 := Lib.hid h45
          clear h43 h45
          go_wp2
          go_roundw
          case rel => exact ⟨k + 1, by omega, by go_num, by rw [HO.out, if_neg H43.out]; go_num, by rw [HN.out, if_neg H45.out]; go_num, hc.alloc _⟩
          case measure => simp [intOf] <;> omega
    · go_wp2
      go_ret2
      exact ⟨by rw [List.take_of_length_le (by omega)]; rfl, hc⟩

theorem hasChange_take {l : List Mark} {k : Nat} {x : Mark} (hx : l[k]? = some x) (h : hasChange (l.take k) = false) : hasChange (l.take (k + 1)) = (!(x.sign == 32)) := by
  rw [List.take_add_one, hx]
  unfold hasChange at *
  rw [List.any_append, h]
  by_cases h1 : x.sign = 32 <;> simp [h1]
theorem hasChange_of {l : List Mark} {k : Nat} (h : hasChange (l.take k) = true) : hasChange l = true := by
  unfold hasChange at *
  rw [List.any_eq_true] at *
  obtain ⟨x, hx, hp⟩ := h
  exact ⟨x, List.mem_of_mem_take hx, hp⟩

def IdxPost (l : List Mark) (w : World) (e : Ending) (w' : World) : Prop := ∃ n : Int, e = .returned (.int .i64 n) ∧ -1 ≤ n ∧ decide (0 ≤ n) = hasChange l ∧ Chg Never w w'
theorem index_changed (l : List Mark) (v : Value) (w : World) (h : Rdv w Never v l) :
    Calls Tryz.prog 179 #[v, .func (.func 174) #[] #[]] w (IdxPost l w) := by
  obtain ⟨a, cap, rfl, h1, h2, h3⟩ := rdv_slice h
  unfold maxLen at h2
  go_enter Tryz.func179, Tryz.ntmps179
  go_wp2_with fail
  go_loopw [8] (fun i wr => ∃ k : Nat, k ≤ l.length ∧ i = .int .i64 k ∧ Hid (hasChange (l.take k) = false) ∧ Chg Never w wr) (fun i _ => l.length - (intOf i).toNat)
  case atStart => exact ⟨0, Nat.zero_le _, rfl, rfl, Chg.refl _ _⟩
  case round =>
    obtain ⟨k, hk, rfl, hf, hc⟩ := hrel
    by_cases hlt : k < l.length
    · obtain ⟨x, hx⟩ : ∃ x, l[k]? = some x := ⟨l[k], by simp [hlt]⟩
      obtain ⟨b, off, rfl, _, _, c0, c1, s0, s1, hxs⟩ := elems_mark h3 hx
      have c0 := hc.cellNever c0
      have c1 := hc.cellNever c1
      have HT := Lib.hid (hasChange_take hx hf.out)
      clear hx h3 h
      obtain ⟨sg, tx⟩ := x
      simp only at c0 c1 s0 s1 hxs
      by_cases h32 : sg = 32
      · subst h32
        go_wp2_with (go_at_call 174; refine (changed_any _ _ _).mono ?_; rintro e w2 ⟨rfl, hc2⟩)
        go_roundw
        case rel => exact ⟨k + 1, by omega, by go_num, by rw [Hid, HT.out]; rfl, hc.trans hc2⟩
        case measure => simp [intOf] <;> omega
      · have t1 : (sg == 32) = false := by simp [h32]
        go_wp2_with (go_at_call 174; refine (changed_any _ _ _).mono ?_; rintro e w2 ⟨rfl, hc2⟩)
        go_ret
        have E : hasChange l = true := hasChange_of (k := k + 1) (by rw [HT.out]; simp [h32])
        exact ⟨k, rfl, by omega, by rw [E]; simp, hc.trans hc2⟩
    · go_wp2_with fail
      go_ret
      have E : hasChange l = false := by have := hf.out; rwa [List.take_of_length_le (by omega)] at this
      exact ⟨-1, rfl, by omega, by rw [E]; rfl, hc⟩

theorem contains_changed (l : List Mark) (v : Value) (w : World) (h : Rdv w Never v l) :
    Calls Tryz.prog 176 #[v, .func (.func 174) #[] #[]] w fun e w' => e = .returned (.bool (hasChange l)) ∧ Chg Never w w' := by
  go_enter Tryz.func176, Tryz.ntmps176
  go_wp2_with fail
  refine (index_changed l _ _ h).mono ?_
  rintro e w1 ⟨n, rfl, hn, hd, hc⟩
  have HD := Lib.hid hd
  clear hd
  go_wp2_with fail
  go_ret
  exact ⟨by rw [← HD.out]; rfl, hc⟩
end Go.Proofs.YtmjpfoeaobdaeaaGreatDoor
