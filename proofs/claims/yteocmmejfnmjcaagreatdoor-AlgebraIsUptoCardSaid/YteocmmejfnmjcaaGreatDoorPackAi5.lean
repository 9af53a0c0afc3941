/-
  PARTS: THE WALKS of the document's LineFault, LinesFault, ScriptFault.; A SLICE OF A SLICE, as a run, at whatever element type.; THE WALKS of the document's Parts, SplitOf, JoinOf, and of line.Split, line.Join.; THE WALKS of line.letter, line.Path, and of the document's PathFault.; TREES, in plain Lean (chapter 2): files by path, in order.; THE WALKS of tree.Check and of the document's TreeFault, Place.
-/
import Derived.Test.YteocmmejfnmjcaaGreatDoorPackAi4
import Derived.Test.YteocmmejfnmjcaaGreatDoorPackAi1
import Derived.Lib.SplitLaws
import Derived.Lib.Bytealg
import GoSem.Op.String
namespace Go.Proofs.YteocmmejfnmjcaaGreatDoor
open Go.RowKit

theorem nl_mem {s : ByteArray} {k : Nat} (hlt : k < s.size) (h : (((s[k]'hlt).toNat : Int) == 10) = true) : hasNl s = true := by
  unfold hasNl
  have h1 : (s[k]'hlt).toNat = 10 := by have := eq_of_beq h; omega
  have h2 : s[k]'hlt = (10 : UInt8) := UInt8.toNat_inj.1 h1
  have h3 : s.data[k]'hlt = (10 : UInt8) := h2
  rw [List.contains_iff_mem, Array.mem_toList_iff]
  rw [← h3]
  exact Array.getElem_mem _
theorem nl_none {s : ByteArray} (h : ∀ (j : Nat) (hj : j < s.size), (((s[j]'hj).toNat : Int) == 10) = false) : hasNl s = false := by
  unfold hasNl
  rw [Bool.eq_false_iff]
  intro e
  rw [List.contains_iff_mem, Array.mem_toList_iff] at e
  obtain ⟨j, hj, e⟩ := Array.mem_iff_getElem.1 e
  have := h j hj
  have h2 : s[j]'hj = (10 : UInt8) := e
  rw [h2] at this
  exact absurd this (by decide)

set_option maxHeartbeats 1000000 in
set_option maxRecDepth 100000 in
theorem refLine_any (s : ByteArray) (w : World) (hs : s.size ≤ maxLen) :
    Calls Tryz.prog 74 #[.string s] w fun e w' => e = .returned (.int .i64 (lineFault s)) ∧ Chg Never w w' := by
  unfold maxLen at hs
  go_enter Tryz.func74, Tryz.ntmps74
  go_wp2_with fail
  go_loopw [3] (fun i wr => ∃ k : Nat, k ≤ s.size ∧ i = .int .i64 k ∧ Chg Never w wr ∧ Hid (∀ (j : Nat), j < k → ∀ (hj : j < s.size), (((s[j]'hj).toNat : Int) == 10) = false)) (fun i _ => s.size - (intOf i).toNat)
  case atStart => exact ⟨0, Nat.zero_le _, rfl, Chg.refl _ _, fun j h => absurd h (Nat.not_lt_zero j)⟩
  case round =>
    obtain ⟨k, hk, rfl, hc, hf⟩ := hrel
    by_cases hlt : k < s.size
    · cases hq : (((s[k]'hlt).toNat : Int) == 10) with
      | true =>
        have HN := Lib.hid (nl_mem hlt hq)
        go_wp2_with fail
        go_ret
        exact ⟨by rw [lineFault, if_pos HN.out]; rfl, hc⟩
      | false =>
        have HQ : Hid ((((s[k]'hlt).toNat : Int) == 10) = false) := hq
        go_wp2_with fail
        go_roundw
        case rel => exact ⟨k + 1, by omega, by go_num, hc, fun j hj hj' => by
          by_cases e : j = k
          · subst e; exact HQ.out
          · exact hf.out j (by omega) hj'⟩
        case measure => simp [intOf] <;> omega
    · have HN := Lib.hid (nl_none (fun j hj => hf.out j (by omega) hj))
      clear hf
      by_cases h80 : 80 < s.size
      · go_wp2_with fail
        go_ret
        exact ⟨by rw [lineFault, if_neg (by rw [HN.out]; decide), if_pos h80]; rfl, hc⟩
      · go_wp2_with fail
        go_ret
        exact ⟨by rw [lineFault, if_neg (by rw [HN.out]; decide), if_neg h80]; rfl, hc⟩

theorem firstOf_bad {α : Type} (f : α → Int) : ∀ (l : List α) (k : Nat) (x : α), (∀ y ∈ l.take k, f y = 0) → l[k]? = some x → f x ≠ 0 → firstOf f l = f x
  | [], _, _, _, h, _ => by simp at h
  | y :: r, 0, x, _, h, hx => by
    simp only [List.getElem?_cons_zero, Option.some.injEq] at h
    subst h
    rw [firstOf, if_neg hx]
  | y :: r, k + 1, x, ha, h, hx => by
    rw [firstOf, if_pos (ha y (by simp))]
    exact firstOf_bad f r k x (fun z hz => ha z (by simp [hz])) (by simpa using h) hx
theorem take_all_succ {α : Type} {p : α → Prop} {l : List α} {k : Nat} {x : α} (h : ∀ y ∈ l.take k, p y) (hx : l[k]? = some x) (hp : p x) : ∀ y ∈ l.take (k + 1), p y := by
  intro y hy
  rw [List.take_add_one, hx] at hy
  rcases List.mem_append.1 hy with h' | h'
  · exact h y h'
  · simp at h'; rw [h']; exact hp

set_option maxHeartbeats 1000000 in
set_option maxRecDepth 100000 in
theorem refLines_any (l : List ByteArray) (v : Value) (w : World) (h : Rdv w Never v l) :
    Calls Tryz.prog 59 #[v] w fun e w' => e = .returned (.int .i64 (linesFault l)) ∧ Chg Never w w' := by
  obtain ⟨a, cap, rfl, h1, h2, h3⟩ := rdv_slice h
  unfold maxLen at h2
  by_cases h60 : 60 < l.length
  · have HF : Hid (linesFault l = 3) := if_pos h60
    go_enter Tryz.func59, Tryz.ntmps59
    go_wp2_with fail
    go_ret
    exact ⟨by rw [HF.out]; rfl, Chg.refl _ _⟩
  · have HF : Hid (linesFault l = firstOf lineFault l) := if_neg h60
    go_enter Tryz.func59, Tryz.ntmps59
    go_wp2_with fail
    go_loopw [3] (fun i wr => ∃ k : Nat, k ≤ l.length ∧ i = .int .i64 k ∧ Chg Never w wr ∧ Hid (∀ y ∈ l.take k, lineFault y = 0)) (fun i _ => l.length - (intOf i).toNat)
    case atStart => exact ⟨0, Nat.zero_le _, rfl, Chg.refl _ _, fun y hy => by simp at hy⟩
    case round =>
      obtain ⟨k, hk, rfl, hc, hf⟩ := hrel
      by_cases hlt : k < l.length
      · obtain ⟨x, hx⟩ : ∃ x, l[k]? = some x := ⟨l[k], by simp [hlt]⟩
        obtain ⟨b, off, rfl, _, _, hcx, hxs⟩ := elems_str h3 hx
        have hcx := hc.cellNever hcx
        have HX := Lib.hid hx
        clear hx h3 h
        by_cases hz : lineFault x = 0
        · have HZ := Lib.hid hz
          clear hz
          go_wp2_with fail
          refine (refLine_any x _ hxs).mono ?_
          rintro e w2 ⟨rfl, hc2⟩
          rw [HZ.out]
          have hc := hc.trans hc2
          go_wp2_with fail
          go_roundw
          case rel => exact ⟨k + 1, by omega, by go_num, hc, take_all_succ hf.out HX.out HZ.out⟩
          case measure => simp [intOf] <;> omega
        · have HB := Lib.hid (firstOf_bad lineFault l k x hf.out HX.out hz)
          have t1 : (lineFault x == 0) = false := by simp [hz]
          have t2 : (lineFault x != 0) = true := by simp [hz]
          clear hz
          go_wp2_with fail
          refine (refLine_any x _ hxs).mono ?_
          rintro e w2 ⟨rfl, hc2⟩
          have hc := hc.trans hc2
          go_wp2_with fail
          go_ret
          exact ⟨by rw [HF.out, HB.out]; rfl, hc⟩
      · have HZ := Lib.hid ((firstOf_zero lineFault l).2 (fun y hy => hf.out y (by rw [List.take_of_length_le (by omega)]; exact hy)))
        go_wp2_with fail
        go_ret
        exact ⟨by rw [HF.out, HZ.out]; rfl, hc⟩

theorem markFault_line' {sg : Int} (h : sg = 32 ∨ sg = 45 ∨ sg = 43) (tx : ByteArray) : markFault ⟨sg, tx⟩ = lineFault tx := by
  unfold markFault
  rw [if_neg (by simp only []; omega)]
set_option maxHeartbeats 2000000 in
set_option maxRecDepth 100000 in
theorem refScript_any (l : List Mark) (v : Value) (w : World) (h : Rdv w Never v l) :
    Calls Tryz.prog 51 #[v] w fun e w' => e = .returned (.int .i64 (scriptFault l)) ∧ Chg Never w w' := by
  obtain ⟨a, cap, rfl, h1, h2, h3⟩ := rdv_slice h
  unfold maxLen at h2
  by_cases h60 : 120 < l.length
  · have HF : Hid (scriptFault l = 3) := if_pos h60
    go_enter Tryz.func51, Tryz.ntmps51
    go_wp2_with fail
    go_ret
    exact ⟨by rw [HF.out]; rfl, Chg.refl _ _⟩
  · have HF : Hid (scriptFault l = firstOf markFault l) := if_neg h60
    go_enter Tryz.func51, Tryz.ntmps51
    go_wp2_with fail
    go_loopw [3] (fun i wr => ∃ k : Nat, k ≤ l.length ∧ i = .int .i64 k ∧ Chg Never w wr ∧ Hid (∀ y ∈ l.take k, markFault y = 0)) (fun i _ => l.length - (intOf i).toNat)
    case atStart => exact ⟨0, Nat.zero_le _, rfl, Chg.refl _ _, fun y hy => by simp at hy⟩
    case round =>
      obtain ⟨k, hk, rfl, hc, hf⟩ := hrel
      by_cases hlt : k < l.length
      · obtain ⟨x, hx⟩ : ∃ x, l[k]? = some x := ⟨l[k], by simp [hlt]⟩
        obtain ⟨b, off, rfl, _, _, c0, c1, s0, s1, hxs⟩ := elems_mark h3 hx
        have c0 := hc.cellNever c0
        have c1 := hc.cellNever c1
        obtain ⟨sg, tx⟩ := x
        simp only at c0 c1 s0 s1 hxs
        have HX := Lib.hid hx
        clear hx h3 h
        by_cases hs : sg = 32 ∨ sg = 45 ∨ sg = 43
        · have HM := Lib.hid (markFault_line' hs tx)
          by_cases hz : lineFault tx = 0
          · have HZ : Hid (markFault ⟨sg, tx⟩ = 0) := by rw [Hid, HM.out, hz]
            have HL := Lib.hid hz
            clear hz
            rcases hs with rfl | rfl | rfl
            all_goals
              go_wp2_with fail
              refine (refLine_any tx _ hxs).mono ?_
              rintro e w2 ⟨rfl, hc2⟩
              rw [HL.out]
              have hc := hc.trans hc2
              go_wp2_with fail
              go_roundw
              case rel => exact ⟨k + 1, by omega, by go_num, hc, take_all_succ hf.out HX.out HZ.out⟩
              case measure => simp [intOf] <;> omega
          · have HB := Lib.hid (firstOf_bad markFault l k _ hf.out HX.out (by rw [HM.out]; exact hz))
            have t1 : (lineFault tx == 0) = false := by simp [hz]
            have t2 : (lineFault tx != 0) = true := by simp [hz]
            clear hz
            rcases hs with rfl | rfl | rfl
            all_goals
              go_wp2_with fail
              refine (refLine_any tx _ hxs).mono ?_
              rintro e w2 ⟨rfl, hc2⟩
              have hc := hc.trans hc2
              go_wp2_with fail
              go_ret
              exact ⟨by rw [HF.out, HB.out, HM.out]; rfl, hc⟩
        · have HZ : Hid (markFault ⟨sg, tx⟩ = 1) := by unfold Hid markFault; rw [if_pos (by simp only []; omega)]
          have HB := Lib.hid (firstOf_bad markFault l k _ hf.out HX.out (by rw [HZ.out]; decide))
          have t1 : (sg != 32) = true := by simp; omega
          have t2 : (sg != 45) = true := by simp; omega
          have t3 : (sg != 43) = true := by simp; omega
          clear hs
          go_wp2_with fail
          go_ret
          exact ⟨by rw [HF.out, HB.out, HZ.out]; rfl, hc⟩
      · have HZ := Lib.hid ((firstOf_zero markFault l).2 (fun y hy => hf.out y (by rw [List.take_of_length_le (by omega)]; exact hy)))
        go_wp2_with fail
        go_ret
        exact ⟨by rw [HF.out, HZ.out]; rfl, hc⟩
end Go.Proofs.YteocmmejfnmjcaaGreatDoor
namespace Go.Proofs.YteocmmejfnmjcaaGreatDoor
open Go.RowKit

theorem size_mark (w : World) : (sizeOf (Tryz.prog.elem 59)).run Tryz.prog w = .ok 2 w := by kernel_rfl
/-- 's[i:j]' as a run, at whatever element type -/
theorem slice_gen {P : Program} {t : TypeId} (ht : P.underlying t = some (.slice (P.elem t))) {α : Type} [Dat α] (hsz : ∀ w, (sizeOf (P.elem t)).run P w = .ok (Dat.n α) w) {w0 : World} {O : Nat → Prop} {a : Option Addr} {cap : Nat} {l : List α} (h : Rdv w0 O (.slice a l.length cap) l) (i j : Nat) (hij : i ≤ j) (hj : j ≤ l.length) :
    ∃ b, (∀ (x y : Int) (w : World), x = i → y = j → (Instr.slice t (.slice a l.length cap) (some (.int .i64 x)) (some (.int .i64 y)) none).run P w = .ok (.slice b (j - i) (cap - i)) w) ∧
      (∀ (x : Int) (w : World), x = i → j = l.length → (Instr.slice t (.slice a l.length cap) (some (.int .i64 x)) none none).run P w = .ok (.slice b (j - i) (cap - i)) w) ∧
      (∀ (y : Int) (w : World), i = 0 → y = j → (Instr.slice t (.slice a l.length cap) none (some (.int .i64 y)) none).run P w = .ok (.slice b (j - i) (cap - i)) w) ∧
      Rdv w0 O (.slice b (j - i) (cap - i)) ((l.drop i).take (j - i)) := by
  have hr := rdv_sliced h i j hij hj
  obtain ⟨b, hb⟩ := sliced_isSlice a i j cap (Dat.n α)
  obtain ⟨a', cap', e, h1, h2, h3⟩ := rdv_slice h
  simp only [Value.slice.injEq, true_and] at e
  obtain ⟨rfl, rfl⟩ := e
  refine ⟨b, ?_, ?_, ?_, hb ▸ hr⟩
  · rintro x y w rfl rfl
    rw [run_slice_lh w t a l.length cap ht .i64 .i64 _ _ (by omega) (by omega) (by omega), hsz]
    simp only [Result.andThen_ok, Int.toNat_natCast]
    rw [hb]
  · rintro x w rfl rfl
    rw [run_slice_l w t a l.length cap ht .i64 _ (by omega) (by omega), hsz]
    simp only [Result.andThen_ok, Int.toNat_natCast]
    rw [hb]
  · rintro y w rfl rfl
    rw [run_slice_h w t a l.length cap ht .i64 _ (by omega) (by omega), hsz]
    simp only [Result.andThen_ok, Int.toNat_natCast]
    rw [hb]
end Go.Proofs.YteocmmejfnmjcaaGreatDoor
namespace Go.Proofs.YteocmmejfnmjcaaGreatDoor
open Go.RowKit

theorem byte_at {s : ByteArray} {k : Nat} (h : k < s.size) : s.data.toList[k]? = some (s[k]'h) := by
  rw [Array.getElem?_toList, Array.getElem?_eq_getElem h]; rfl
theorem byte_eq {c d : UInt8} {n : Int} (h : ((c.toNat : Int) == n) = true) (hd : (d.toNat : Int) = n) : c = d := by
  have := eq_of_beq h
  exact UInt8.toNat_inj.1 (by omega)
theorem byte_ne {c d : UInt8} {n : Int} (h : ((c.toNat : Int) == n) = false) (hd : (d.toNat : Int) = n) : c ≠ d := by
  rintro rfl
  rw [hd] at h
  simp at h
/-- how far a text has been parted -/
def PartsInv (d : UInt8) (s : ByteArray) (q k : Nat) (L : List ByteArray) : Prop :=
  parts d s.data.toList = L.map (·.data.toList) ++ parts d (s.data.toList.drop q) ∧ ∀ j, q ≤ j → j < k → s.data.toList[j]? ≠ some d
theorem pinv_start (d : UInt8) (s : ByteArray) : PartsInv d s 0 0 [] := ⟨by simp, fun j _ h => absurd h (Nat.not_lt_zero j)⟩
theorem PartsInv.step {d : UInt8} {s : ByteArray} {q k : Nat} {L : List ByteArray} {c : UInt8} (h : PartsInv d s q k L) (hk : s.data.toList[k]? = some c) (hc : c ≠ d) : PartsInv d s q (k + 1) L :=
  ⟨h.1, fun j h1 h2 e => by
    by_cases hj : j = k
    · subst hj; rw [hk] at e; injection e with e; exact hc e
    · exact h.2 j h1 (by omega) e⟩
theorem no_sep {d : UInt8} {s : List UInt8} {q k : Nat} (h : ∀ j, q ≤ j → j < k → s[j]? ≠ some d) : ∀ x ∈ (s.drop q).take (k - q), x ≠ d := by
  rintro x hx rfl
  obtain ⟨i, hi⟩ := List.getElem?_of_mem hx
  rw [List.getElem?_take] at hi
  split at hi
  · rw [List.getElem?_drop] at hi
    exact h (q + i) (by omega) (by omega) hi
  · cases hi
theorem PartsInv.cut {d : UInt8} {s : ByteArray} {q k : Nat} {L : List ByteArray} (h : PartsInv d s q k L) (hq : q ≤ k) (hk : s.data.toList[k]? = some d) : PartsInv d s (k + 1) (k + 1) (L ++ [s.extract q k]) := by
  refine ⟨?_, fun j h1 h2 => by omega⟩
  have e : s.data.toList.drop q = (s.data.toList.drop q).take (k - q) ++ d :: s.data.toList.drop (k + 1) := by
    conv => lhs; rw [← List.take_append_drop (k - q) (s.data.toList.drop q), List.drop_drop, show q + (k - q) = k by omega, drop_eq hk]
  rw [h.1, e, parts_cut _ (no_sep h.2), List.map_append, List.append_assoc]
  simp only [List.map_cons, List.map_nil, List.singleton_append]
  rw [Lib.extract_data]
theorem PartsInv.fin {d : UInt8} {s : ByteArray} {q : Nat} {L : List ByteArray} (h : PartsInv d s q s.size L) : (parts d s.data.toList).map toB = L ++ [s.extract q s.size] := by
  have hl : s.data.toList.length = s.size := (Lib.size_eq s).symm
  have e : (s.data.toList.drop q).take (s.size - q) = s.data.toList.drop q := List.take_of_length_le (by rw [List.length_drop, hl]; exact Nat.le_refl _)
  have hn := no_sep h.2
  rw [e] at hn
  have e2 : toB (s.data.toList.drop q) = s.extract q s.size := by rw [← e, ← Lib.extract_data, toB_of]
  rw [h.1, parts_none hn, List.map_append, List.map_map, map_toB, List.map_cons, List.map_nil, e2]

theorem last_of {l : List (List UInt8)} (h : l ≠ []) : ∃ i z, l = i ++ [z] := ⟨l.dropLast, l.getLast h, (List.dropLast_concat_getLast h).symm⟩
theorem parts_count (d : UInt8) : ∀ s, (parts d s).length ≤ s.length + 1
  | [] => by simp [parts]
  | c :: r => by
    have := parts_count d r
    by_cases h : c = d
    · subst h; rw [parts_sep]; simp; omega
    · obtain ⟨h', t, e⟩ := List.exists_cons_of_ne_nil (parts_ne d r)
      rw [parts_other h e]
      rw [e] at this
      simp at this ⊢
      omega

theorem rdv_strs {w : World} {O : Nat → Prop} {g : Nat} {e : TypeId} {l : List ByteArray} {n : Nat} (h : w.heap[g]? = some (.cells (l.map Value.string).toArray e (0, 0))) (hO : ¬ O g) (hn : n = l.length) (hl : l.length ≤ maxLen) (hs : ∀ x ∈ l, x.size ≤ maxLen) : Rdv w O (.slice (some ⟨g, 0, none⟩) n n) l := by
  subst hn
  refine ⟨some ⟨g, 0, none⟩, l.length, rfl, Nat.le_refl _, hl, ?_⟩
  intro i x hx
  refine ⟨g, 0, [.string x], rfl, hO, ?_, rfl, hs x (List.mem_of_getElem? hx)⟩
  intro j u hj
  match j, hj with
  | 0, hj =>
    simp only [List.getElem?_cons_zero, Option.some.injEq] at hj
    subst hj
    simp only [World.cell?, h]
    simp [Dat.n, hx]

theorem joinL_size {l : List ByteArray} (h : ∀ x ∈ l, x.size ≤ 80) : (joinL l).length ≤ 81 * l.length := by
  induction l with
  | nil => simp [joinL]
  | cons x l ih =>
    have h1 := ih (fun y hy => h y (List.mem_cons_of_mem _ hy))
    have h2 := h x (List.mem_cons_self ..)
    rw [Lib.size_eq] at h2
    rw [joinL_cons]
    simp only [List.length_append, List.length_cons]
    omega
theorem linesFault_size {l : List ByteArray} (h : linesFault l = 0) : ∀ x ∈ l, x.size ≤ 80 := by
  unfold linesFault at h
  by_cases e : 60 < l.length
  · rw [if_pos e] at h; cases h
  · rw [if_neg e, firstOf_zero] at h
    intro x hx
    have := h x hx
    unfold lineFault at this
    by_cases e1 : hasNl x = true
    · rw [if_pos e1] at this; cases this
    · rw [if_neg e1] at this
      by_cases e2 : 80 < x.size
      · rw [if_pos e2] at this; cases this
      · omega
theorem joinOf_step {l : List ByteArray} {k : Nat} {x : ByteArray} (hx : l[k]? = some x) : joinOf (l.take k) ++ x ++ ⟨#[10]⟩ = joinOf (l.take (k + 1)) := by
  unfold joinOf
  rw [List.take_add_one, hx, joinL_append]
  apply ByteArray.ext
  apply Array.toList_inj.1
  rw [bytes_append, bytes_append, toB_data, toB_data]
  simp [joinL]
theorem joinL_step {l : List ByteArray} {k : Nat} {x : ByteArray} (hx : l[k]? = some x) : Lib.byteCells (joinL (l.take k)) ++ Lib.strCells x ++ [.int .u8 10] = Lib.byteCells (joinL (l.take (k + 1))) := by
  rw [List.take_add_one, hx, joinL_append, Lib.byteCells_append, Lib.strCells_eq, List.append_assoc]
  congr 1
  simp [joinL, Lib.byteCells_append]
  rfl

theorem suffix_snoc (b : List UInt8) : Lib.hasSuffix (b ++ [10]) [10] = true ∧ Lib.trimSuffix (b ++ [10]) [10] = b := by
  have e : Lib.hasSuffix (b ++ [10]) [10] = true := by
    unfold Lib.hasSuffix
    rw [List.isSuffixOf_iff_suffix]
    exact List.suffix_append b [10]
  refine ⟨e, ?_⟩
  unfold Lib.trimSuffix
  rw [if_pos e]
  simp
theorem suffix_not {b : List UInt8} {c : UInt8} (h : c ≠ 10) : Lib.hasSuffix (b ++ [c]) [10] = false := by
  unfold Lib.hasSuffix
  rw [Bool.eq_false_iff]
  intro e
  rw [List.isSuffixOf_iff_suffix] at e
  obtain ⟨t, ht⟩ := e
  have := (List.append_inj' ht rfl).2
  simp at this
  exact h this.symm
theorem str_ne_empty {s : ByteArray} (h : s ≠ ByteArray.empty) : ∃ b c, s.data.toList = b ++ [c] := by
  have hne : s.data.toList ≠ [] := by
    intro e
    apply h
    apply ByteArray.ext
    apply Array.toList_inj.1
    rw [e]; rfl
  exact ⟨s.data.toList.dropLast, s.data.toList.getLast hne, (List.dropLast_concat_getLast hne).symm⟩
theorem parts_mem (d : UInt8) : ∀ (s : List UInt8) (x : List UInt8), x ∈ parts d s → x.length ≤ s.length
  | [], x, h => by simp [parts] at h; subst h; simp
  | c :: r, x, h => by
    have ih := parts_mem d r
    by_cases hc : c = d
    · subst hc
      rw [parts_sep] at h
      rcases List.mem_cons.1 h with rfl | h
      · simp
      · have := ih x h; simp; omega
    · obtain ⟨h', t, e⟩ := List.exists_cons_of_ne_nil (parts_ne d r)
      rw [parts_other hc e] at h
      rw [e] at ih
      rcases List.mem_cons.1 h with rfl | h
      · have := ih h' (List.mem_cons_self ..); simp; omega
      · have := ih x (List.mem_cons_of_mem _ h); simp; omega
end Go.Proofs.YteocmmejfnmjcaaGreatDoor
namespace Go.Proofs.YteocmmejfnmjcaaGreatDoor
open Go.RowKit

def letterI (c : Int) : Bool := decide (97 ≤ c) && decide (c ≤ 122) || decide (48 ≤ c) && decide (c ≤ 57) || (c == 46) || (c == 45)
theorem letterI_byte (c : UInt8) : letterI c.toNat = letterB c := by
  unfold letterI letterB
  have e1 : decide ((97 : Int) ≤ (c.toNat : Int)) = decide (97 ≤ c.toNat) := by congr 1; apply propext; omega
  have e2 : decide ((c.toNat : Int) ≤ 122) = decide (c.toNat ≤ 122) := by congr 1; apply propext; omega
  have e3 : decide ((48 : Int) ≤ (c.toNat : Int)) = decide (48 ≤ c.toNat) := by congr 1; apply propext; omega
  have e4 : decide ((c.toNat : Int) ≤ 57) = decide (c.toNat ≤ 57) := by congr 1; apply propext; omega
  have e5 : ((c.toNat : Int) == 46) = decide (c.toNat = 46) := by rw [Bool.eq_iff_iff, beq_iff_eq, decide_eq_true_eq]; omega
  have e6 : ((c.toNat : Int) == 45) = decide (c.toNat = 45) := by rw [Bool.eq_iff_iff, beq_iff_eq, decide_eq_true_eq]; omega
  rw [e1, e2, e3, e4, e5, e6]

set_option maxHeartbeats 1000000 in
theorem letter_any (c : Int) (w : World) (h0 : 0 ≤ c) (h1 : c < 256) :
    Calls Tryz.prog 76 #[.int .u8 c] w fun e w' => e = .returned (.bool (letterI c)) ∧ w' = w := by
  by_cases b1 : 97 ≤ c
  · by_cases b2 : c ≤ 122
    · have a1 : decide ((97 : Int) ≤ c) = true := by simp; omega
      have a2 : decide (c ≤ (122 : Int)) = true := by simp; omega
      have a3 : decide ((48 : Int) ≤ c) = true := by simp; omega
      have a4 : decide (c ≤ (57 : Int)) = false := by simp; omega
      have a5 : (c == 46) = false := by simp; omega
      have a6 : (c == 45) = false := by simp; omega
      have HL : Hid (letterI c = (true && true || true && false || false || false)) := by unfold Hid letterI; rw [a1, a2, a3, a4, a5, a6]
      try clear b5
      try clear b6
      go_enter Tryz.func76, Tryz.ntmps76
      go_wp2_with fail
      go_ret
      exact ⟨by rw [HL.out]; rfl, rfl⟩
    · have a1 : decide ((97 : Int) ≤ c) = true := by simp; omega
      have a2 : decide (c ≤ (122 : Int)) = false := by simp; omega
      have a3 : decide ((48 : Int) ≤ c) = true := by simp; omega
      have a4 : decide (c ≤ (57 : Int)) = false := by simp; omega
      have a5 : (c == 46) = false := by simp; omega
      have a6 : (c == 45) = false := by simp; omega
      have HL : Hid (letterI c = (true && false || true && false || false || false)) := by unfold Hid letterI; rw [a1, a2, a3, a4, a5, a6]
      try clear b5
      try clear b6
      go_enter Tryz.func76, Tryz.ntmps76
      go_wp2_with fail
      go_ret
      exact ⟨by rw [HL.out]; rfl, rfl⟩
  · by_cases b3 : 48 ≤ c
    · by_cases b4 : c ≤ 57
      · have a1 : decide ((97 : Int) ≤ c) = false := by simp; omega
        have a2 : decide (c ≤ (122 : Int)) = true := by simp; omega
        have a3 : decide ((48 : Int) ≤ c) = true := by simp; omega
        have a4 : decide (c ≤ (57 : Int)) = true := by simp; omega
        have a5 : (c == 46) = false := by simp; omega
        have a6 : (c == 45) = false := by simp; omega
        have HL : Hid (letterI c = (false && true || true && true || false || false)) := by unfold Hid letterI; rw [a1, a2, a3, a4, a5, a6]
        try clear b5
        try clear b6
        go_enter Tryz.func76, Tryz.ntmps76
        go_wp2_with fail
        go_ret
        exact ⟨by rw [HL.out]; rfl, rfl⟩
      · have a1 : decide ((97 : Int) ≤ c) = false := by simp; omega
        have a2 : decide (c ≤ (122 : Int)) = true := by simp; omega
        have a3 : decide ((48 : Int) ≤ c) = true := by simp; omega
        have a4 : decide (c ≤ (57 : Int)) = false := by simp; omega
        have a5 : (c == 46) = false := by simp; omega
        have a6 : (c == 45) = false := by simp; omega
        have HL : Hid (letterI c = (false && true || true && false || false || false)) := by unfold Hid letterI; rw [a1, a2, a3, a4, a5, a6]
        try clear b5
        try clear b6
        go_enter Tryz.func76, Tryz.ntmps76
        go_wp2_with fail
        go_ret
        exact ⟨by rw [HL.out]; rfl, rfl⟩
    · by_cases b5 : c = 46
      · have a1 : decide ((97 : Int) ≤ c) = false := by simp; omega
        have a2 : decide (c ≤ (122 : Int)) = true := by simp; omega
        have a3 : decide ((48 : Int) ≤ c) = false := by simp; omega
        have a4 : decide (c ≤ (57 : Int)) = true := by simp; omega
        have a5 : (c == 46) = true := by simp; omega
        have a6 : (c == 45) = false := by simp; omega
        have HL : Hid (letterI c = (false && true || false && true || true || false)) := by unfold Hid letterI; rw [a1, a2, a3, a4, a5, a6]
        try clear b5
        try clear b6
        go_enter Tryz.func76, Tryz.ntmps76
        go_wp2_with fail
        go_ret
        exact ⟨by rw [HL.out]; rfl, rfl⟩
      · by_cases b6 : c = 45
        · have a1 : decide ((97 : Int) ≤ c) = false := by simp; omega
          have a2 : decide (c ≤ (122 : Int)) = true := by simp; omega
          have a3 : decide ((48 : Int) ≤ c) = false := by simp; omega
          have a4 : decide (c ≤ (57 : Int)) = true := by simp; omega
          have a5 : (c == 46) = false := by simp; omega
          have a6 : (c == 45) = true := by simp; omega
          have HL : Hid (letterI c = (false && true || false && true || false || true)) := by unfold Hid letterI; rw [a1, a2, a3, a4, a5, a6]
          try clear b5
          try clear b6
          go_enter Tryz.func76, Tryz.ntmps76
          go_wp2_with fail
          go_ret
          exact ⟨by rw [HL.out]; rfl, rfl⟩
        · have a1 : decide ((97 : Int) ≤ c) = false := by simp; omega
          have a2 : decide (c ≤ (122 : Int)) = true := by simp; omega
          have a3 : decide ((48 : Int) ≤ c) = false := by simp; omega
          have a4 : decide (c ≤ (57 : Int)) = true := by simp; omega
          have a5 : (c == 46) = false := by simp; omega
          have a6 : (c == 45) = false := by simp; omega
          have HL : Hid (letterI c = (false && true || false && true || false || false)) := by unfold Hid letterI; rw [a1, a2, a3, a4, a5, a6]
          try clear b5
          try clear b6
          go_enter Tryz.func76, Tryz.ntmps76
          go_wp2_with fail
          go_ret
          exact ⟨by rw [HL.out]; rfl, rfl⟩

theorem emp_false {x : ByteArray} (h : x.data.toList ≠ []) : x.toList.isEmpty = false := by rw [Lib.toList_data]; simpa using h
theorem str_false {x : ByteArray} {l : List UInt8} (h : x.data.toList ≠ l) : (x.toList == l) = false := by rw [Lib.toList_data]; simpa using h
/-! ### names -/
theorem nameOk_iff {x : List UInt8} : nameOk x = true ↔ x ≠ [] ∧ x ≠ [46] ∧ x ≠ [46, 46] ∧ ∀ c ∈ x, letterB c = true := by
  unfold nameOk
  simp only [Bool.and_eq_true, Bool.not_eq_true', beq_eq_false_iff_ne, List.all_eq_true, ne_eq]
  constructor
  · rintro ⟨⟨⟨a, b⟩, c⟩, d⟩; exact ⟨a, b, c, d⟩
  · rintro ⟨a, b, c, d⟩; exact ⟨⟨⟨a, b⟩, c⟩, d⟩
theorem pathFault_long {s : ByteArray} (h : 20 < s.size) : pathFault s = 3 := if_pos h
theorem pathFault_bad {s : ByteArray} (h : ¬ 20 < s.size) {x : List UInt8} (hx : x ∈ parts 47 s.data.toList) (hb : nameOk x = false) : pathFault s = 5 := by
  unfold pathFault
  rw [if_neg h, if_neg]
  intro e
  rw [List.all_eq_true] at e
  rw [e x hx] at hb
  cases hb
theorem pathFault_ok {s : ByteArray} (h : ¬ 20 < s.size) (ha : ∀ x ∈ parts 47 s.data.toList, nameOk x = true) : pathFault s = 0 := by
  unfold pathFault
  rw [if_neg h, if_pos]
  rw [List.all_eq_true]; exact ha

set_option maxHeartbeats 1000000 in
set_option maxRecDepth 100000 in
theorem line_path_any (s : ByteArray) (w : World) (m : Int) (hm : w.cell? ⟨1, 0, none⟩ = some (.int .i64 m)) :
    Calls Tryz.prog 53 #[.string s] w fun e w' => e = .returned (errV (pathFault s)) ∧ Chg Never w w' := by
  by_cases h20 : 20 < s.size
  · have HF := Lib.hid (pathFault_long h20)
    go_enter Tryz.func53, Tryz.ntmps53
    go_wp2_with fail
    go_ret
    exact ⟨by rw [HF.out]; rfl, Chg.refl _ _⟩
  · have HB := fun x hx hb => pathFault_bad (x := x) h20 hx hb
    have HO := pathFault_ok h20
    have hcnt : (parts 47 s.data.toList).length ≤ s.size + 1 := by rw [Lib.size_eq]; exact parts_count 47 _
    have HSP : Hid (Lib.splitB ⟨#[47]⟩ 0 (Lib.countB s ⟨#[47]⟩) s = (parts 47 s.data.toList).map toB) := splitB_parts 47 s
    have HLEN : Hid (Lib.countB s ⟨#[47]⟩ + 1 = ((parts 47 s.data.toList).map toB).length) := by
      have := Lib.splitB_all ⟨#[47]⟩ (by decide) 0 _ s rfl
      rw [Hid, ← this, HSP.out]
    have hmem : ∀ x ∈ parts 47 s.data.toList, x.length ≤ s.size := fun x hx => by rw [Lib.size_eq]; exact parts_mem 47 _ x hx
    have HMEM := Lib.hid hmem
    have HCNT := Lib.hid hcnt
    clear hmem hcnt
    have HH := Lib.hid (And.intro HB HO)
    clear HB HO
    go_enter Tryz.func53, Tryz.ntmps53
    go_wp2_with fail
    refine (Tryz.strings_Split s ⟨#[47]⟩ m _ (by omega) hm (by decide)).mono ?_
    rintro e w2 ⟨rfl, rfl⟩
    rw [HSP.out, HLEN.out]
    have hmem := HMEM.out
    have hcnt := HCNT.out
    have hA : Chg Never w (w.alloc (.cells (((parts 47 s.data.toList).map toB).map Value.string).toArray 9)) := (Chg.refl Never w).alloc _
    have hR0 : Rdv (w.alloc (.cells (((parts 47 s.data.toList).map toB).map Value.string).toArray 9)) Never (.slice (some ⟨w.heap.size, 0, none⟩) ((parts 47 s.data.toList).map toB).length ((parts 47 s.data.toList).map toB).length) ((parts 47 s.data.toList).map toB) :=
      rdv_strs (heap_alloc_new _ _) (fun h => h) rfl (by rw [List.length_map]; unfold maxLen; omega) (fun x hx => by
        obtain ⟨y, hy, rfl⟩ := List.mem_map.1 hx
        rw [Lib.size_eq, toB_data]
        have := hmem y hy
        unfold maxLen; omega)
    have hLL : ((parts 47 s.data.toList).map toB).length ≤ 21 := by rw [List.length_map]; omega
    have HM : Hid (∀ x ∈ (parts 47 s.data.toList).map toB, x.data.toList ∈ parts 47 s.data.toList ∧ x.size ≤ 20) := by
      intro x hx
      obtain ⟨y, hy, rfl⟩ := List.mem_map.1 hx
      have := hmem y hy
      exact ⟨by rw [toB_data]; exact hy, by rw [Lib.size_eq, toB_data]; omega⟩
    have HM2 : Hid (∀ y ∈ parts 47 s.data.toList, toB y ∈ (parts 47 s.data.toList).map toB) := fun y hy => List.mem_map.2 ⟨y, hy, rfl⟩
    clear hmem hcnt HSP HLEN
    generalize (parts 47 s.data.toList).map toB = L at hR0 hA hLL HM HM2 ⊢
    generalize w.alloc (.cells (L.map Value.string).toArray 9) = w3 at hR0 hA ⊢
    obtain ⟨la, lc, hlv, h1, h2, h3⟩ := rdv_slice hR0
    simp only [Value.slice.injEq, true_and] at hlv
    obtain ⟨rfl, rfl⟩ := hlv
    go_wp2_with fail
    go_loop [13] (fun i => ∃ k : Nat, k ≤ L.length ∧ i = .int .i64 k ∧ Hid (∀ x ∈ L.take k, nameOk x.data.toList = true)) (fun i => L.length - (intOf i).toNat)
    case atStart => exact ⟨0, Nat.zero_le _, rfl, fun x hx => by simp at hx⟩
    case round =>
      obtain ⟨k, hk, rfl, hf⟩ := hrel
      by_cases hlt : k < L.length
      · obtain ⟨x, hx⟩ : ∃ x, L[k]? = some x := ⟨L[k], by simp [hlt]⟩
        obtain ⟨b, off, hbo, _, _, c0, hxs⟩ := elems_str h3 hx
        simp only [Option.some.injEq, Addr.mk.injEq, and_true] at hbo
        obtain ⟨rfl, rfl⟩ := hbo
        rw [Nat.zero_add] at c0
        obtain ⟨hxm, hx20⟩ := HM.out x (List.mem_of_getElem? hx)
        have HX := Lib.hid hx
        have HXM := Lib.hid hxm
        clear hx hxm
        by_cases b1 : x.data.toList = []
        · have HN := Lib.hid (HH.out.1 _ HXM.out (by rw [b1]; rfl))
          have t1 : x.toList.isEmpty = true := by rw [Lib.toList_data, b1]; rfl
          clear b1
          go_wp2_with fail
          go_ret
          exact ⟨by rw [HN.out]; rfl, hA⟩
        · have t1 := emp_false b1
          by_cases b2 : x.data.toList = [46]
          · have HN := Lib.hid (HH.out.1 _ HXM.out (by rw [b2]; rfl))
            have t2 : (x.toList == [46]) = true := by rw [Lib.toList_data, b2]; rfl
            clear b1 b2
            go_wp2_with fail
            go_ret
            exact ⟨by rw [HN.out]; rfl, hA⟩
          · have t2 := str_false b2
            by_cases b3 : x.data.toList = [46, 46]
            · have HN := Lib.hid (HH.out.1 _ HXM.out (by rw [b3]; rfl))
              have t3 : (x.toList == [46, 46]) = true := by rw [Lib.toList_data, b3]; rfl
              clear b1 b2 b3
              go_wp2_with fail
              go_ret
              exact ⟨by rw [HN.out]; rfl, hA⟩
            · have t3 := str_false b3
              have HBB := Lib.hid (And.intro b1 (And.intro b2 b3))
              clear b1 b2 b3
              go_wp2_with fail
              go_loop [30] (fun i => ∃ j : Nat, j ≤ x.size ∧ i = .int .i64 j ∧ Hid (∀ q, q < j → ∀ c, x.data.toList[q]? = some c → letterB c = true)) (fun i => x.size - (intOf i).toNat)
              case atStart => exact ⟨0, Nat.zero_le _, rfl, fun q h => absurd h (Nat.not_lt_zero q)⟩
              case round =>
                obtain ⟨j, hj, rfl, hl⟩ := hrel
                by_cases hjl : j < x.size
                · have HAT := Lib.hid (byte_at hjl)
                  have hlt256 := (x[j]'hjl).toNat_lt
                  cases hlb : letterI ((x[j]'hjl).toNat : Int) with
                  | true =>
                    have HLB : Hid (letterB (x[j]'hjl) = true) := by rw [Hid, ← letterI_byte]; exact hlb
                    go_wp2_with fail
                    refine (letter_any _ _ (by omega) (by omega)).mono ?_
                    rintro e w5 ⟨rfl, hw5⟩
                    rw [hw5, hlb]
                    clear hlb hw5
                    go_wp2_with fail
                    go_round
                    case rel => exact ⟨j + 1, by omega, by go_num, fun q hq c hc => by
                      by_cases e : q = j
                      · subst e
                        rw [HAT.out] at hc
                        injection hc with hc
                        rw [← hc]; exact HLB.out
                      · exact hl.out q (by omega) c hc⟩
                    case measure => simp [intOf] <;> omega
                  | false =>
                    have HN := Lib.hid (HH.out.1 _ HXM.out (by
                      rw [Bool.eq_false_iff]
                      intro e
                      have := (nameOk_iff.1 e).2.2.2 _ (List.mem_of_getElem? HAT.out)
                      rw [← letterI_byte, hlb] at this
                      cases this))
                    go_wp2_with fail
                    refine (letter_any _ _ (by omega) (by omega)).mono ?_
                    rintro e w5 ⟨rfl, hw5⟩
                    rw [hw5, hlb]
                    clear hlb hw5
                    go_wp2_with fail
                    go_ret
                    exact ⟨by rw [HN.out]; rfl, hA⟩
                · have HOK : Hid (nameOk x.data.toList = true) := nameOk_iff.2 ⟨HBB.out.1, HBB.out.2.1, HBB.out.2.2, fun c hc => by
                    obtain ⟨q, hq⟩ := List.getElem?_of_mem hc
                    have hql := (List.getElem?_eq_some_iff.1 hq).1
                    rw [← Lib.size_eq] at hql
                    exact hl.out q (by omega) c hq⟩
                  clear hl
                  go_wp2_with fail
                  go_round
                  case rel => exact ⟨k + 1, by omega, by go_num, take_all_succ hf.out HX.out HOK.out⟩
                  case measure => simp [intOf] <;> omega
      · go_wp2_with fail
        go_ret
        have e := hf.out
        rw [List.take_of_length_le (by omega)] at e
        have e2 : pathFault s = 0 := HH.out.2 (fun y hy => by have := e _ (HM2.out y hy); rw [toB_data] at this; exact this)
        exact ⟨by rw [e2]; rfl, hA⟩

/-! ### the document's way -/
theorem parts_head {d : UInt8} : ∀ {a : List UInt8} (r : List UInt8), (∀ x ∈ a, x ≠ d) → ∃ t u, parts d (a ++ r) = (a ++ t) :: u ∧ parts d r = t :: u
  | [], r, _ => by
    obtain ⟨h', t, e⟩ := List.exists_cons_of_ne_nil (parts_ne d r)
    exact ⟨h', t, e, e⟩
  | c :: a, r, h => by
    obtain ⟨t, u, e1, e2⟩ := parts_head (a := a) r (fun x hx => h x (List.mem_cons_of_mem _ hx))
    exact ⟨t, u, parts_other (h c (List.mem_cons_self ..)) e1, e2⟩
structure NameInv (s : ByteArray) (q k : Nat) (L : List ByteArray) : Prop where
  p : PartsInv 47 s q k L
  ok : ∀ x ∈ L, nameOk x.data.toList = true
  let_ : ∀ j, q ≤ j → j < k → ∀ c, s.data.toList[j]? = some c → letterB c = true
theorem ninv_start (s : ByteArray) : NameInv s 0 0 [] := ⟨pinv_start _ _, fun x h => by simp at h, fun j _ h => absurd h (Nat.not_lt_zero j)⟩
theorem NameInv.step {s : ByteArray} {q k : Nat} {L : List ByteArray} {c : UInt8} (h : NameInv s q k L) (hk : s.data.toList[k]? = some c) (hc : c ≠ 47) (hl : letterB c = true) : NameInv s q (k + 1) L :=
  ⟨h.p.step hk hc, h.ok, fun j h1 h2 d hd => by
    by_cases e : j = k
    · subst e
      rw [hk] at hd
      injection hd with hd
      rw [← hd]; exact hl
    · exact h.let_ j h1 (by omega) d hd⟩
theorem NameInv.bad {s : ByteArray} {q k : Nat} {L : List ByteArray} {c : UInt8} (h : NameInv s q k L) (hq : q ≤ k) (hk : s.data.toList[k]? = some c) (hc : c ≠ 47) (hl : letterB c = false) : ∃ x ∈ parts 47 s.data.toList, nameOk x = false := by
  have e : s.data.toList.drop q = (s.data.toList.drop q).take (k - q) ++ c :: s.data.toList.drop (k + 1) := by
    conv => lhs; rw [← List.take_append_drop (k - q) (s.data.toList.drop q), List.drop_drop, show q + (k - q) = k by omega, drop_eq hk]
  obtain ⟨h', t', e3⟩ := List.exists_cons_of_ne_nil (parts_ne 47 (s.data.toList.drop (k + 1)))
  have hns := no_sep h.p.2
  generalize (s.data.toList.drop q).take (k - q) = A at e hns
  obtain ⟨t, u, e1, e2⟩ := parts_head (c :: s.data.toList.drop (k + 1)) hns
  rw [parts_other hc e3] at e2
  injection e2 with e2 e2'
  refine ⟨A ++ t, ?_, ?_⟩
  · rw [h.p.1, e, e1]
    exact List.mem_append_right _ (List.mem_cons_self ..)
  · rw [Bool.eq_false_iff]
    intro hn
    have hct : c ∈ t := by rw [← e2]; exact List.mem_cons_self ..
    have := (nameOk_iff.1 hn).2.2.2 c (List.mem_append_right _ hct)
    rw [hl] at this
    cases this
theorem NameInv.name {s : ByteArray} {q k : Nat} {L : List ByteArray} (h : NameInv s q k L) : ∀ c ∈ (s.extract q k).data.toList, letterB c = true := by
  intro c hc
  rw [Lib.extract_data] at hc
  obtain ⟨i, hi⟩ := List.getElem?_of_mem hc
  rw [List.getElem?_take] at hi
  split at hi
  · rw [List.getElem?_drop] at hi
    exact h.let_ (q + i) (by omega) (by omega) c hi
  · cases hi
theorem NameInv.nameMem {s : ByteArray} {q k : Nat} {L : List ByteArray} (h : NameInv s q k L) (hq : q ≤ k) (hk : s.data.toList[k]? = some 47 ∨ k = s.size) : (s.extract q k).data.toList ∈ parts 47 s.data.toList := by
  rcases hk with hk | rfl
  · have e := (h.p.cut hq hk).1
    rw [e]
    exact List.mem_append_left _ (List.mem_map.2 ⟨_, List.mem_append_right _ (List.mem_cons_self ..), rfl⟩)
  · have e := h.p.fin
    have hm : s.extract q s.size ∈ (parts 47 s.data.toList).map toB := by rw [e]; exact List.mem_append_right _ (List.mem_cons_self ..)
    obtain ⟨y, hy, e2⟩ := List.mem_map.1 hm
    rw [← e2, toB_data]; exact hy
theorem NameInv.cut {s : ByteArray} {q k : Nat} {L : List ByteArray} (h : NameInv s q k L) (hq : q ≤ k) (hk : s.data.toList[k]? = some 47) (hn : nameOk (s.extract q k).data.toList = true) : NameInv s (k + 1) (k + 1) (L ++ [s.extract q k]) :=
  ⟨h.p.cut hq hk, fun x hx => by
    rcases List.mem_append.1 hx with hx | hx
    · exact h.ok x hx
    · rw [List.mem_singleton] at hx
      rw [hx]; exact hn, fun j h1 h2 => by omega⟩
theorem NameInv.all {s : ByteArray} {q : Nat} {L : List ByteArray} (h : NameInv s q s.size L) (hn : nameOk (s.extract q s.size).data.toList = true) : ∀ x ∈ parts 47 s.data.toList, nameOk x = true := by
  intro x hx
  have hm : toB x ∈ (parts 47 s.data.toList).map toB := List.mem_map.2 ⟨x, hx, rfl⟩
  rw [h.p.fin] at hm
  have : nameOk (toB x).data.toList = true := by
    rcases List.mem_append.1 hm with hm | hm
    · exact h.ok _ hm
    · rw [List.mem_singleton] at hm
      rw [hm]; exact hn
  rwa [toB_data] at this
/-- where the loop over the letters stands: at a letter, or behind the end -/
def PathSt (s : ByteArray) (q k : Nat) : Prop := (k ≤ s.size → ∃ L, NameInv s q k L) ∧ (k = s.size + 1 → ∀ x ∈ parts 47 s.data.toList, nameOk x = true)

set_option maxHeartbeats 2000000 in
set_option maxRecDepth 100000 in
theorem refPath_any (s : ByteArray) (w : World) :
    Calls Tryz.prog 22 #[.string s] w fun e w' => e = .returned (.int .i64 (pathFault s)) ∧ Chg Never w w' := by
  by_cases h20 : 20 < s.size
  · have HF := Lib.hid (pathFault_long h20)
    go_enter Tryz.func22, Tryz.ntmps22
    go_wp2_with fail
    go_ret
    exact ⟨by rw [HF.out]; rfl, Chg.refl _ _⟩
  · have h20' : s.size ≤ 20 := by omega
    go_enter Tryz.func22, Tryz.ntmps22
    go_wp2_with fail
    go_loopw [3, 4] (fun fr i wr => ∃ (q k : Nat), fr = .int .i64 q ∧ i = .int .i64 k ∧ q ≤ k ∧ k ≤ s.size + 1 ∧ Chg Never w wr ∧ Hid (PathSt s q k)) (fun _ i _ => s.size + 1 - (intOf i).toNat)
    case atStart => exact ⟨0, 0, rfl, rfl, Nat.le_refl _, Nat.zero_le _, Chg.refl _ _, ⟨fun _ => ⟨[], ninv_start s⟩, fun e => by omega⟩⟩
    case round =>
      obtain ⟨q, k, rfl, rfl, hqk, hk, hc, hS⟩ := hrel
      by_cases hle : k ≤ s.size
      · obtain ⟨L, hNI⟩ := hS.out.1 hle
        have HNI := Lib.hid hNI
        clear hNI hS
        by_cases hlt : k < s.size
        · have HB := Lib.hid (byte_at hlt)
          have h256 := (s[k]'hlt).toNat_lt
          cases hq : (((s[k]'hlt).toNat : Int) == 47) with
          | false =>
            have t0 : (((s[k]'hlt).toNat : Int) != 47) = true := by simpa using hq
            have HC := Lib.hid (byte_ne (d := 47) hq rfl)
            clear hq
            by_cases c1 : 97 ≤ (s[k]'hlt).toNat
            · by_cases c2 : (s[k]'hlt).toNat ≤ 122
              · have a1 : decide (((s[k]'hlt).toNat : Int) < 97) = false := by simp; omega
                have a2 : decide ((122 : Int) < ((s[k]'hlt).toNat : Int)) = false := by simp; omega
                have a3 : decide (((s[k]'hlt).toNat : Int) < 48) = false := by simp; omega
                have a4 : decide ((57 : Int) < ((s[k]'hlt).toNat : Int)) = true := by simp; omega
                have a5 : (((s[k]'hlt).toNat : Int) != 46) = true := by simp; omega
                have a6 : (((s[k]'hlt).toNat : Int) != 45) = true := by simp; omega
                have HLB : Hid (letterB (s[k]'hlt) = true) := by
                  unfold Hid letterB
                  simp only [Bool.or_eq_true, Bool.and_eq_true, decide_eq_true_eq]
                  omega
                have HST : Hid (PathSt s q (k + 1)) := ⟨fun _ => ⟨L, HNI.out.step HB.out HC.out HLB.out⟩, fun e => by omega⟩
                go_wp2_with fail
                go_roundw
                case rel => exact ⟨q, k + 1, rfl, by go_num, by omega, by omega, hc, HST⟩
                case measure => simp [intOf] <;> omega
              · have a1 : decide (((s[k]'hlt).toNat : Int) < 97) = false := by simp; omega
                have a2 : decide ((122 : Int) < ((s[k]'hlt).toNat : Int)) = true := by simp; omega
                have a3 : decide (((s[k]'hlt).toNat : Int) < 48) = false := by simp; omega
                have a4 : decide ((57 : Int) < ((s[k]'hlt).toNat : Int)) = true := by simp; omega
                have a5 : (((s[k]'hlt).toNat : Int) != 46) = true := by simp; omega
                have a6 : (((s[k]'hlt).toNat : Int) != 45) = true := by simp; omega
                have HLB : Hid (letterB (s[k]'hlt) = false) := by
                  rw [Hid, Bool.eq_false_iff]
                  unfold letterB
                  simp only [ne_eq, Bool.or_eq_true, Bool.and_eq_true, decide_eq_true_eq]
                  omega
                have HF : Hid (pathFault s = 5) := by
                  obtain ⟨x, hx, hb⟩ := HNI.out.bad hqk HB.out HC.out HLB.out
                  exact pathFault_bad h20 hx hb
                go_wp2_with fail
                go_ret
                exact ⟨by rw [HF.out]; rfl, hc⟩
            · by_cases c3 : 48 ≤ (s[k]'hlt).toNat
              · by_cases c4 : (s[k]'hlt).toNat ≤ 57
                · have a1 : decide (((s[k]'hlt).toNat : Int) < 97) = true := by simp; omega
                  have a2 : decide ((122 : Int) < ((s[k]'hlt).toNat : Int)) = false := by simp; omega
                  have a3 : decide (((s[k]'hlt).toNat : Int) < 48) = false := by simp; omega
                  have a4 : decide ((57 : Int) < ((s[k]'hlt).toNat : Int)) = false := by simp; omega
                  have a5 : (((s[k]'hlt).toNat : Int) != 46) = true := by simp; omega
                  have a6 : (((s[k]'hlt).toNat : Int) != 45) = true := by simp; omega
                  have HLB : Hid (letterB (s[k]'hlt) = true) := by
                    unfold Hid letterB
                    simp only [Bool.or_eq_true, Bool.and_eq_true, decide_eq_true_eq]
                    omega
                  have HST : Hid (PathSt s q (k + 1)) := ⟨fun _ => ⟨L, HNI.out.step HB.out HC.out HLB.out⟩, fun e => by omega⟩
                  go_wp2_with fail
                  go_roundw
                  case rel => exact ⟨q, k + 1, rfl, by go_num, by omega, by omega, hc, HST⟩
                  case measure => simp [intOf] <;> omega
                · have a1 : decide (((s[k]'hlt).toNat : Int) < 97) = true := by simp; omega
                  have a2 : decide ((122 : Int) < ((s[k]'hlt).toNat : Int)) = false := by simp; omega
                  have a3 : decide (((s[k]'hlt).toNat : Int) < 48) = false := by simp; omega
                  have a4 : decide ((57 : Int) < ((s[k]'hlt).toNat : Int)) = true := by simp; omega
                  have a5 : (((s[k]'hlt).toNat : Int) != 46) = true := by simp; omega
                  have a6 : (((s[k]'hlt).toNat : Int) != 45) = true := by simp; omega
                  have HLB : Hid (letterB (s[k]'hlt) = false) := by
                    rw [Hid, Bool.eq_false_iff]
                    unfold letterB
                    simp only [ne_eq, Bool.or_eq_true, Bool.and_eq_true, decide_eq_true_eq]
                    omega
                  have HF : Hid (pathFault s = 5) := by
                    obtain ⟨x, hx, hb⟩ := HNI.out.bad hqk HB.out HC.out HLB.out
                    exact pathFault_bad h20 hx hb
                  go_wp2_with fail
                  go_ret
                  exact ⟨by rw [HF.out]; rfl, hc⟩
              · by_cases c5 : (s[k]'hlt).toNat = 46
                · have a1 : decide (((s[k]'hlt).toNat : Int) < 97) = true := by simp; omega
                  have a2 : decide ((122 : Int) < ((s[k]'hlt).toNat : Int)) = false := by simp; omega
                  have a3 : decide (((s[k]'hlt).toNat : Int) < 48) = true := by simp; omega
                  have a4 : decide ((57 : Int) < ((s[k]'hlt).toNat : Int)) = false := by simp; omega
                  have a5 : (((s[k]'hlt).toNat : Int) != 46) = false := by simp; omega
                  have a6 : (((s[k]'hlt).toNat : Int) != 45) = true := by simp; omega
                  have HLB : Hid (letterB (s[k]'hlt) = true) := by
                    unfold Hid letterB
                    simp only [Bool.or_eq_true, Bool.and_eq_true, decide_eq_true_eq]
                    omega
                  have HST : Hid (PathSt s q (k + 1)) := ⟨fun _ => ⟨L, HNI.out.step HB.out HC.out HLB.out⟩, fun e => by omega⟩
                  go_wp2_with fail
                  go_roundw
                  case rel => exact ⟨q, k + 1, rfl, by go_num, by omega, by omega, hc, HST⟩
                  case measure => simp [intOf] <;> omega
                · by_cases c6 : (s[k]'hlt).toNat = 45
                  · have a1 : decide (((s[k]'hlt).toNat : Int) < 97) = true := by simp; omega
                    have a2 : decide ((122 : Int) < ((s[k]'hlt).toNat : Int)) = false := by simp; omega
                    have a3 : decide (((s[k]'hlt).toNat : Int) < 48) = true := by simp; omega
                    have a4 : decide ((57 : Int) < ((s[k]'hlt).toNat : Int)) = false := by simp; omega
                    have a5 : (((s[k]'hlt).toNat : Int) != 46) = true := by simp; omega
                    have a6 : (((s[k]'hlt).toNat : Int) != 45) = false := by simp; omega
                    have HLB : Hid (letterB (s[k]'hlt) = true) := by
                      unfold Hid letterB
                      simp only [Bool.or_eq_true, Bool.and_eq_true, decide_eq_true_eq]
                      omega
                    have HST : Hid (PathSt s q (k + 1)) := ⟨fun _ => ⟨L, HNI.out.step HB.out HC.out HLB.out⟩, fun e => by omega⟩
                    go_wp2_with fail
                    go_roundw
                    case rel => exact ⟨q, k + 1, rfl, by go_num, by omega, by omega, hc, HST⟩
                    case measure => simp [intOf] <;> omega
                  · have a1 : decide (((s[k]'hlt).toNat : Int) < 97) = true := by simp; omega
                    have a2 : decide ((122 : Int) < ((s[k]'hlt).toNat : Int)) = false := by simp; omega
                    have a3 : decide (((s[k]'hlt).toNat : Int) < 48) = true := by simp; omega
                    have a4 : decide ((57 : Int) < ((s[k]'hlt).toNat : Int)) = false := by simp; omega
                    have a5 : (((s[k]'hlt).toNat : Int) != 46) = true := by simp; omega
                    have a6 : (((s[k]'hlt).toNat : Int) != 45) = true := by simp; omega
                    have HLB : Hid (letterB (s[k]'hlt) = false) := by
                      rw [Hid, Bool.eq_false_iff]
                      unfold letterB
                      simp only [ne_eq, Bool.or_eq_true, Bool.and_eq_true, decide_eq_true_eq]
                      omega
                    have HF : Hid (pathFault s = 5) := by
                      obtain ⟨x, hx, hb⟩ := HNI.out.bad hqk HB.out HC.out HLB.out
                      exact pathFault_bad h20 hx hb
                    go_wp2_with fail
                    go_ret
                    exact ⟨by rw [HF.out]; rfl, hc⟩
          | true =>
            have t0 : (((s[k]'hlt).toNat : Int) != 47) = false := by simpa using hq
            have HC : Hid (s.data.toList[k]? = some 47) := by rw [Hid, HB.out, byte_eq (d := 47) hq rfl]
            have HMEM := Lib.hid (HNI.out.nameMem hqk (.inl HC.out))
            clear hq
            by_cases b1 : (s.extract q k).data.toList = []
            · have HN := Lib.hid (pathFault_bad h20 HMEM.out (by rw [b1]; rfl))
              have t1 : (s.extract q k).toList.isEmpty = true := by rw [Lib.toList_data, b1]; rfl
              clear b1
              go_wp2_with fail
              go_ret
              exact ⟨by rw [HN.out]; rfl, hc⟩
            · have t1 := emp_false b1
              by_cases b2 : (s.extract q k).data.toList = [46]
              · have HN := Lib.hid (pathFault_bad h20 HMEM.out (by rw [b2]; rfl))
                have t2 : ((s.extract q k).toList == [46]) = true := by rw [Lib.toList_data, b2]; rfl
                clear b1 b2
                go_wp2_with fail
                go_ret
                exact ⟨by rw [HN.out]; rfl, hc⟩
              · have t2 := str_false b2
                by_cases b3 : (s.extract q k).data.toList = [46, 46]
                · have HN := Lib.hid (pathFault_bad h20 HMEM.out (by rw [b3]; rfl))
                  have t3 : ((s.extract q k).toList == [46, 46]) = true := by rw [Lib.toList_data, b3]; rfl
                  clear b1 b2 b3
                  go_wp2_with fail
                  go_ret
                  exact ⟨by rw [HN.out]; rfl, hc⟩
                · have t3 := str_false b3
                  have HOK : Hid (nameOk (s.extract q k).data.toList = true) := nameOk_iff.2 ⟨b1, b2, b3, HNI.out.name⟩
                  clear b1 b2 b3
                  have HST : Hid (PathSt s (k + 1) (k + 1)) := ⟨fun _ => ⟨_, HNI.out.cut hqk HC.out HOK.out⟩, fun e => by omega⟩
                  go_wp2_with fail
                  go_roundw
                  case rel => exact ⟨k + 1, k + 1, by go_num, by go_num, Nat.le_refl _, by omega, hc, HST⟩
                  case measure => simp [intOf] <;> omega
        · have hks : k = s.size := by omega
          have HMEM := Lib.hid (HNI.out.nameMem hqk (.inr hks))
          have HKS := Lib.hid hks
          clear hks
          by_cases b1 : (s.extract q k).data.toList = []
          · have HN := Lib.hid (pathFault_bad h20 HMEM.out (by rw [b1]; rfl))
            have t1 : (s.extract q k).toList.isEmpty = true := by rw [Lib.toList_data, b1]; rfl
            clear b1
            go_wp2_with fail
            go_ret
            exact ⟨by rw [HN.out]; rfl, hc⟩
          · have t1 := emp_false b1
            by_cases b2 : (s.extract q k).data.toList = [46]
            · have HN := Lib.hid (pathFault_bad h20 HMEM.out (by rw [b2]; rfl))
              have t2 : ((s.extract q k).toList == [46]) = true := by rw [Lib.toList_data, b2]; rfl
              clear b1 b2
              go_wp2_with fail
              go_ret
              exact ⟨by rw [HN.out]; rfl, hc⟩
            · have t2 := str_false b2
              by_cases b3 : (s.extract q k).data.toList = [46, 46]
              · have HN := Lib.hid (pathFault_bad h20 HMEM.out (by rw [b3]; rfl))
                have t3 : ((s.extract q k).toList == [46, 46]) = true := by rw [Lib.toList_data, b3]; rfl
                clear b1 b2 b3
                go_wp2_with fail
                go_ret
                exact ⟨by rw [HN.out]; rfl, hc⟩
              · have t3 := str_false b3
                have HOK : Hid (nameOk (s.extract q k).data.toList = true) := nameOk_iff.2 ⟨b1, b2, b3, HNI.out.name⟩
                clear b1 b2 b3
                have HST : Hid (PathSt s (k + 1) (k + 1)) := ⟨fun e => by have := HKS.out; omega, fun _ => by have a := HNI.out; have b := HOK.out; rw [HKS.out] at a b; exact a.all b⟩
                go_wp2_with fail
                go_roundw
                case rel => exact ⟨k + 1, k + 1, by go_num, by go_num, Nat.le_refl _, by omega, hc, HST⟩
                case measure => simp [intOf] <;> omega
      · have HF : Hid (pathFault s = 0) := pathFault_ok h20 (hS.out.2 (by omega))
        clear hS
        go_wp2_with fail
        go_ret
        exact ⟨by rw [HF.out]; rfl, hc⟩
end Go.Proofs.YteocmmejfnmjcaaGreatDoor
namespace Go.Proofs.YteocmmejfnmjcaaGreatDoor

/-! ### the order of paths -/
theorem bl_cons (a b : UInt8) (x y : List UInt8) : Op.bytesLess (a :: x) (b :: y) = (decide (a < b) || (a == b && Op.bytesLess x y)) := by rw [Op.bytesLess]
theorem bl_nil_r (x : List UInt8) : Op.bytesLess x [] = false := by cases x <;> rfl
theorem bl_nil_l (b : UInt8) (y : List UInt8) : Op.bytesLess [] (b :: y) = true := rfl
theorem bl_irrefl : ∀ x : List UInt8, Op.bytesLess x x = false
  | [] => rfl
  | a :: x => by rw [bl_cons, bl_irrefl x]; simp
theorem bl_trans : ∀ {x y z : List UInt8}, Op.bytesLess x y = true → Op.bytesLess y z = true → Op.bytesLess x z = true
  | _, [], _, h, _ => by rw [bl_nil_r] at h; cases h
  | _, _ :: _, [], _, h => by rw [bl_nil_r] at h; cases h
  | [], _ :: _, _ :: _, _, _ => rfl
  | a :: x, b :: y, c :: z, h, g => by
    rw [bl_cons] at h g ⊢
    simp only [Bool.or_eq_true, decide_eq_true_eq, Bool.and_eq_true, beq_iff_eq] at h g ⊢
    rcases h with h | ⟨rfl, h⟩
    · rcases g with g | ⟨rfl, g⟩
      · exact .inl (UInt8.lt_trans h g)
      · exact .inl h
    · rcases g with g | ⟨rfl, g⟩
      · exact .inl g
      · exact .inr ⟨rfl, bl_trans h g⟩
theorem bl_tri : ∀ x y : List UInt8, Op.bytesLess x y = true ∨ x = y ∨ Op.bytesLess y x = true
  | [], [] => .inr (.inl rfl)
  | [], _ :: _ => .inl rfl
  | _ :: _, [] => .inr (.inr rfl)
  | a :: x, b :: y => by
    rw [bl_cons, bl_cons]
    simp only [Bool.or_eq_true, decide_eq_true_eq, Bool.and_eq_true, beq_iff_eq, List.cons.injEq]
    rcases Nat.lt_trichotomy a.toNat b.toNat with h | h | h
    · exact .inl (.inl (UInt8.lt_iff_toNat_lt.2 h))
    · have hab : a = b := UInt8.toNat_inj.1 h
      subst hab
      rcases bl_tri x y with h | h | h
      · exact .inl (.inr ⟨rfl, h⟩)
      · exact .inr (.inl ⟨rfl, h⟩)
      · exact .inr (.inr (.inr ⟨rfl, h⟩))
    · exact .inr (.inr (.inl (UInt8.lt_iff_toNat_lt.2 h)))
theorem compare_bl : ∀ x y : List UInt8, (Lib.compareBytes x y < 0 ↔ Op.bytesLess x y = true) ∧ (Lib.compareBytes x y = 0 ↔ x = y)
  | [], [] => by simp [Lib.compareBytes, Op.bytesLess]
  | [], _ :: _ => by simp [Lib.compareBytes, Op.bytesLess]
  | _ :: _, [] => by simp [Lib.compareBytes, Op.bytesLess]
  | a :: x, b :: y => by
    obtain ⟨i1, i2⟩ := compare_bl x y
    rw [bl_cons, Lib.compareBytes]
    by_cases h1 : a < b
    · have : a ≠ b := by rintro rfl; exact absurd h1 (UInt8.lt_irrefl a)
      simp [h1, this]
    · by_cases h2 : b < a
      · have : a ≠ b := by rintro rfl; exact absurd h2 (UInt8.lt_irrefl a)
        simp [h1, h2, this]
      · have hab : a = b := by
          have n1 : ¬ a.toNat < b.toNat := fun h => h1 (UInt8.lt_iff_toNat_lt.2 h)
          have n2 : ¬ b.toNat < a.toNat := fun h => h2 (UInt8.lt_iff_toNat_lt.2 h)
          exact UInt8.toNat_inj.1 (by omega)
        subst hab
        simp [h1, i1, i2]
def less (a b : ByteArray) : Bool := Op.bytesLess a.toList b.toList
theorem toList_inj {a b : ByteArray} (h : a.toList = b.toList) : a = b := by
  rw [Lib.toList_data, Lib.toList_data] at h
  exact ByteArray.ext (Array.toList_inj.1 h)
theorem less_irrefl (a : ByteArray) : less a a = false := bl_irrefl _
theorem less_trans {a b c : ByteArray} (h : less a b = true) (g : less b c = true) : less a c = true := bl_trans h g
theorem less_tri (a b : ByteArray) : less a b = true ∨ a = b ∨ less b a = true := by
  rcases bl_tri a.toList b.toList with h | h | h
  · exact .inl h
  · exact .inr (.inl (toList_inj h))
  · exact .inr (.inr h)
theorem less_asymm {a b : ByteArray} (h : less a b = true) : less b a = false := by
  cases hb : less b a with
  | false => rfl
  | true =>
    have := less_trans h hb
    rw [less_irrefl] at this
    cases this
theorem less_ne {a b : ByteArray} (h : less a b = true) : a ≠ b := by
  rintro rfl
  rw [less_irrefl] at h
  cases h
/-- the walk's 'a <= b' -/
def leqB (a b : ByteArray) : Bool := Op.bytesLess a.toList b.toList || a.toList == b.toList
theorem leqB_true {a b : ByteArray} : leqB a b = true ↔ less b a = false := by
  unfold leqB
  rw [Bool.or_eq_true, beq_iff_eq]
  constructor
  · rintro (h | h)
    · exact less_asymm h
    · rw [toList_inj h]; exact less_irrefl b
  · intro h
    rcases less_tri a b with g | g | g
    · exact .inl g
    · exact .inr (by rw [g])
    · rw [g] at h; cases h

/-! ### trees -/
def fileFault (f : File) : Int := if pathFault f.path = 0 then linesFault f.lines else pathFault f.path
def treeGo : Nat → Option ByteArray → List File → Nat × Int
  | _, _, [] => (0, 0)
  | i, prev, f :: r => if fileFault f ≠ 0 then (i, fileFault f) else if prev.any (fun p => leqB f.path p) = true then (i, 2) else treeGo (i + 1) (some f.path) r
def treeFault (t : List File) : Nat × Int := if 8 < t.length then (0, 3) else treeGo 0 none t
def Sorted (t : List File) : Prop := t.Pairwise fun f g => less f.path g.path = true

theorem treeGo_zero : ∀ (t : List File) (i : Nat) (prev : Option ByteArray), (treeGo i prev t).2 = 0 → (∀ f ∈ t, fileFault f = 0) ∧ Sorted t ∧ (∀ p f, prev = some p → f ∈ t → less p f.path = true) ∧ treeGo i prev t = (0, 0)
  | [], _, _, _ => ⟨by simp, List.Pairwise.nil, by simp, rfl⟩
  | f :: r, i, prev, h => by
    rw [treeGo] at h ⊢
    by_cases h1 : fileFault f ≠ 0
    · rw [if_pos h1] at h; exact absurd h h1
    · rw [if_neg h1] at h ⊢
      by_cases h2 : prev.any (fun p => leqB f.path p) = true
      · rw [if_pos h2] at h; cases h
      · rw [if_neg h2] at h ⊢
        obtain ⟨i1, i2, i3, i4⟩ := treeGo_zero r (i + 1) (some f.path) h
        refine ⟨?_, ?_, ?_, i4⟩
        · intro x hx
          rcases List.mem_cons.1 hx with rfl | hx
          · simpa using h1
          · exact i1 x hx
        · exact List.Pairwise.cons (fun g hg => i3 f.path g rfl hg) i2
        · rintro p x rfl hx
          have hp : less p f.path = true := by
            simp only [Option.any_some] at h2
            rcases less_tri p f.path with g | g | g
            · exact g
            · exact absurd (leqB_true.2 (by rw [g]; exact less_irrefl _)) h2
            · exact absurd (leqB_true.2 (less_asymm g)) h2
          rcases List.mem_cons.1 hx with rfl | hx
          · exact hp
          · exact less_trans hp (i3 f.path x rfl hx)
theorem treeFault_zero {t : List File} (h : (treeFault t).2 = 0) : t.length ≤ 8 ∧ (∀ f ∈ t, fileFault f = 0) ∧ Sorted t ∧ treeFault t = (0, 0) := by
  unfold treeFault at h ⊢
  by_cases h1 : 8 < t.length
  · rw [if_pos h1] at h; cases h
  · rw [if_neg h1] at h ⊢
    obtain ⟨i1, i2, _, i4⟩ := treeGo_zero t 0 none h
    exact ⟨by omega, i1, i2, i4⟩
theorem fileFault_zero {f : File} (h : fileFault f = 0) : pathFault f.path = 0 ∧ linesFault f.lines = 0 := by
  unfold fileFault at h
  by_cases h1 : pathFault f.path = 0
  · rw [if_pos h1] at h; exact ⟨h1, h⟩
  · rw [if_neg h1] at h; exact absurd h h1

/-- where a path is, or would be -/
def posOf (t : List File) (p : ByteArray) : Nat := (t.takeWhile fun f => less f.path p).length
def isAt (t : List File) (p : ByteArray) : Bool := (t[posOf t p]?).any fun f => decide (f.path = p)
def placeOf (t : List File) (p : ByteArray) : Option Nat := t.findIdx? fun f => decide (f.path = p)
def putAt (t : List File) (f : File) : List File := t.take (posOf t f.path) ++ f :: t.drop (if isAt t f.path = true then posOf t f.path + 1 else posOf t f.path)
def dropAt (t : List File) (k : Nat) : List File := t.take k ++ t.drop (k + 1)
/-- the document's way to put -/
def putLoop (f : File) : Bool → List File → List File
  | done, [] => if done then [] else [f]
  | done, x :: r => (if !done && leqB f.path x.path then [f] else []) ++ (if x.path = f.path then [] else [x]) ++ putLoop f (done || leqB f.path x.path) r

theorem posOf_le (t : List File) (p : ByteArray) : posOf t p ≤ t.length := by
  unfold posOf
  exact (List.takeWhile_prefix _).length_le
theorem pos_unique {t : List File} {p : ByteArray} {i : Nat} (h1 : ∀ q f, q < i → t[q]? = some f → less f.path p = true) (h2 : ∀ f, t[i]? = some f → less f.path p = false) (hi : i ≤ t.length) : posOf t p = i := by
  induction t generalizing i with
  | nil => simp at hi; subst hi; rfl
  | cons x t ih =>
    unfold posOf at ih ⊢
    cases i with
    | zero =>
      have := h2 x rfl
      rw [List.takeWhile_cons, this]; rfl
    | succ i =>
      have := h1 0 x (Nat.succ_pos i) rfl
      rw [List.takeWhile_cons, this]
      simp only [if_true, List.length_cons]
      congr 1
      exact ih (fun q f hq hf => h1 (q + 1) f (by omega) (by simpa using hf)) (fun f hf => h2 f (by simpa using hf)) (by simpa using hi)
theorem sorted_mono {t : List File} (h : Sorted t) {i j : Nat} {f g : File} (hij : i < j) (hi : t[i]? = some f) (hj : t[j]? = some g) : less f.path g.path = true := by
  obtain ⟨hi1, hi2⟩ := List.getElem?_eq_some_iff.1 hi
  obtain ⟨hj1, hj2⟩ := List.getElem?_eq_some_iff.1 hj
  have := List.pairwise_iff_getElem.1 h i j hi1 hj1 hij
  rw [hi2, hj2] at this
  exact this
theorem putLoop_done (f : File) : ∀ t : List File, (∀ x ∈ t, less f.path x.path = true) → putLoop f true t = t
  | [], _ => rfl
  | x :: r, h => by
    have hx := h x (List.mem_cons_self ..)
    rw [putLoop, Bool.true_or, putLoop_done f r (fun y hy => h y (List.mem_cons_of_mem _ hy))]
    simp [(less_ne hx).symm]
theorem putLoop_sorted (f : File) : ∀ t : List File, Sorted t → putLoop f false t = putAt t f
  | [], _ => rfl
  | x :: r, h => by
    obtain ⟨h1, h2⟩ := List.pairwise_cons.1 h
    have ih := putLoop_sorted f r h2
    rcases less_tri x.path f.path with g | g | g
    · have e1 : leqB f.path x.path = false := by
        rw [Bool.eq_false_iff]; intro e
        rw [leqB_true.1 e] at g; cases g
      have e2 : posOf (x :: r) f.path = posOf r f.path + 1 := by unfold posOf; rw [List.takeWhile_cons, g]; rfl
      have e3 : isAt (x :: r) f.path = isAt r f.path := by unfold isAt; rw [e2, List.getElem?_cons_succ]
      rw [putLoop, e1, if_neg (less_ne g)]
      unfold putAt at ih ⊢
      rw [e2, e3, List.take_succ_cons]
      simp only [Bool.not_false, Bool.and_false, Bool.false_eq_true, if_false, List.nil_append, Bool.or_false, List.cons_append, List.cons.injEq, true_and]
      rw [ih]
      by_cases hi : isAt r f.path = true
      · rw [if_pos hi, if_pos hi]; rfl
      · rw [if_neg hi, if_neg hi]; rfl
    · have e1 : leqB f.path x.path = true := leqB_true.2 (by rw [g]; exact less_irrefl _)
      have e2 : posOf (x :: r) f.path = 0 := by unfold posOf; rw [List.takeWhile_cons, g, less_irrefl]; rfl
      have e3 : isAt (x :: r) f.path = true := by unfold isAt; rw [e2]; simp [g]
      rw [putLoop, e1, if_pos g, Bool.false_or, putLoop_done f r (fun y hy => by rw [← g]; exact h1 y hy)]
      unfold putAt
      rw [e2, if_pos e3]
      rfl
    · have e1 : leqB f.path x.path = true := leqB_true.2 (less_asymm g)
      have e2 : posOf (x :: r) f.path = 0 := by unfold posOf; rw [List.takeWhile_cons, less_asymm g]; rfl
      have e3 : isAt (x :: r) f.path = false := by unfold isAt; rw [e2]; simp [(less_ne g).symm]
      rw [putLoop, e1, if_neg (less_ne g).symm, Bool.false_or, putLoop_done f r (fun y hy => less_trans g (h1 y hy))]
      unfold putAt
      have e4 : (if isAt (x :: r) f.path = true then 0 + 1 else 0) = 0 := if_neg (by rw [e3]; decide)
      rw [e2, e4]
      rfl
theorem placeOf_sorted {t : List File} (h : Sorted t) (p : ByteArray) : placeOf t p = if isAt t p = true then some (posOf t p) else none := by
  induction t with
  | nil => rfl
  | cons x r ih =>
    obtain ⟨h1, h2⟩ := List.pairwise_cons.1 h
    have ih := ih h2
    unfold placeOf at ih ⊢
    rw [List.findIdx?_cons]
    rcases less_tri x.path p with g | g | g
    · have e2 : posOf (x :: r) p = posOf r p + 1 := by unfold posOf; rw [List.takeWhile_cons, g]; rfl
      have e3 : isAt (x :: r) p = isAt r p := by unfold isAt; rw [e2, List.getElem?_cons_succ]
      rw [decide_eq_false (less_ne g), e2, e3, ih]
      by_cases hi : isAt r p = true
      · simp [hi]
      · simp [hi]
    · have e2 : posOf (x :: r) p = 0 := by unfold posOf; rw [List.takeWhile_cons, g, less_irrefl]; rfl
      have e3 : isAt (x :: r) p = true := by unfold isAt; rw [e2]; simp [g]
      rw [decide_eq_true g, e2, e3]; rfl
    · have e2 : posOf (x :: r) p = 0 := by unfold posOf; rw [List.takeWhile_cons, less_asymm g]; rfl
      have e3 : isAt (x :: r) p = false := by unfold isAt; rw [e2]; simp [(less_ne g).symm]
      have hr : isAt r p = false := by
        unfold isAt
        cases hf : r[posOf r p]? with
        | none => rfl
        | some y => simp [(less_ne (less_trans g (h1 y (List.mem_of_getElem? hf)))).symm]
      rw [decide_eq_false (less_ne g).symm, e3, ih, hr]; rfl
theorem dropAt_is {t : List File} (p : ByteArray) : dropAt t (posOf t p) = t.take (posOf t p) ++ t.drop (posOf t p + 1) := rfl
end Go.Proofs.YteocmmejfnmjcaaGreatDoor
namespace Go.Proofs.YteocmmejfnmjcaaGreatDoor
open Go.RowKit

theorem elems_file {w : World} {O : Nat → Prop} {a : Option Addr} {l : List File} (h : Elems w O a l) {i : Nat} {x : File} (hx : l[i]? = some x) :
    ∃ b off v, a = some ⟨b, off, none⟩ ∧ ¬ O b ∧ b < w.heap.size ∧ w.cell? ⟨b, off + i * 2, none⟩ = some (.string x.path) ∧ w.cell? ⟨b, off + i * 2 + 1, none⟩ = some v ∧ x.path.size ≤ maxLen ∧ Rdv w O v x.lines := by
  obtain ⟨b, off, es, ha, hb, hcs, v, rfl, hp, hv⟩ := h i x hx
  refine ⟨b, off, v, ha, hb, hcs.lt (by simp), ?_, ?_, hp, hv⟩
  · simpa [Dat.n] using hcs 0 _ rfl
  · simpa [Dat.n] using hcs 1 _ rfl
def prevOf (t : List File) (k : Nat) : Option ByteArray := if k = 0 then none else (t[k - 1]?).map (·.path)
theorem prevOf_succ {t : List File} {k : Nat} {f : File} (h : t[k]? = some f) : prevOf t (k + 1) = some f.path := by unfold prevOf; simp [h]
theorem treeGo_next {t : List File} {k : Nat} {f : File} {prev : Option ByteArray} (hd : t.drop k = f :: t.drop (k + 1)) (h1 : fileFault f = 0) (h2 : prev.any (fun p => leqB f.path p) = false) : treeGo k prev (t.drop k) = treeGo (k + 1) (some f.path) (t.drop (k + 1)) := by
  rw [hd, treeGo, if_neg (by simp [h1]), if_neg (by rw [h2]; decide)]
theorem treeGo_bad {t : List File} {k : Nat} {f : File} {prev : Option ByteArray} (hd : t.drop k = f :: t.drop (k + 1)) (h1 : fileFault f ≠ 0) : treeGo k prev (t.drop k) = (k, fileFault f) := by
  rw [hd, treeGo, if_pos h1]
theorem treeGo_order {t : List File} {k : Nat} {f : File} {p : ByteArray} (hd : t.drop k = f :: t.drop (k + 1)) (h1 : fileFault f = 0) (h2 : leqB f.path p = true) : treeGo k (some p) (t.drop k) = (k, 2) := by
  rw [hd, treeGo, if_neg (by simp [h1]), if_pos (by simpa using h2)]
theorem treeGo_end {t : List File} {prev : Option ByteArray} : treeGo t.length prev (t.drop t.length) = (0, 0) := by rw [List.drop_length]; rfl

set_option maxHeartbeats 2000000 in
set_option maxRecDepth 100000 in
theorem tree_check_any (t : List File) (v : Value) (w : World) (h : Rdv w Never v t) (m : Int) (hm : w.cell? ⟨1, 0, none⟩ = some (.int .i64 m)) :
    Calls Tryz.prog 36 #[v] w fun e w' => e = .returned (.tuple #[.int .i64 (treeFault t).1, errV (treeFault t).2]) ∧ Chg Never w w' := by
  obtain ⟨a, cap, rfl, h1, h2, h3⟩ := rdv_slice h
  unfold maxLen at h2
  by_cases h8 : 8 < t.length
  · have HF : Hid (treeFault t = (0, 3)) := if_pos h8
    go_enter Tryz.func36, Tryz.ntmps36
    go_wp2_with fail
    go_ret2
    exact ⟨by rw [HF.out]; rfl, Chg.refl _ _⟩
  · have HF : Hid (treeFault t = treeGo 0 (prevOf t 0) (t.drop 0)) := if_neg h8
    go_enter Tryz.func36, Tryz.ntmps36
    go_wp2_with fail
    go_loopw [14] (fun i wr => ∃ k : Nat, k ≤ t.length ∧ i = .int .i64 k ∧ Chg Never w wr ∧ Hid (treeFault t = treeGo k (prevOf t k) (t.drop k))) (fun i _ => t.length - (intOf i).toNat)
    case atStart => exact ⟨0, Nat.zero_le _, rfl, Chg.refl _ _, HF.out⟩
    case round =>
      clear HF
      obtain ⟨k, hk, rfl, hc, hG⟩ := hrel
      by_cases hlt : k < t.length
      · obtain ⟨x, hx⟩ : ∃ x, t[k]? = some x := ⟨t[k], by simp [hlt]⟩
        obtain ⟨b, off, lv, rfl, _, _, c0, c1, hps, hlv⟩ := elems_file h3 hx
        obtain ⟨la, lcap, rfl, _, _, _⟩ := rdv_slice hlv
        have c0 := hc.cellNever c0
        have c1 := hc.cellNever c1
        have HD := Lib.hid (drop_eq hx)
        have HPV := Lib.hid (prevOf_succ hx)
        have HX := Lib.hid hx
        have hA : Chg Never wr (wr.alloc (.cells #[.string x.path, .slice la x.lines.length lcap] 76)) := (Chg.refl Never wr).alloc _
        have b0 : (wr.alloc (.cells #[.string x.path, .slice la x.lines.length lcap] 76)).cell? ⟨wr.heap.size, 0, none⟩ = some (.string x.path) := by simp only [World.cell?]; rw [heap_alloc_new]; rfl
        have b1 : (wr.alloc (.cells #[.string x.path, .slice la x.lines.length lcap] 76)).cell? ⟨wr.heap.size, 1, none⟩ = some (.slice la x.lines.length lcap) := by simp only [World.cell?]; rw [heap_alloc_new]; rfl
        clear hx
        by_cases p0 : pathFault x.path = 0
        · have P0 := Lib.hid p0
          by_cases l0 : linesFault x.lines = 0
          · have HFF : Hid (fileFault x = 0) := by unfold Hid fileFault; rw [if_pos p0, l0]
            have L0 := Lib.hid l0
            clear p0 l0
            go_wp2_with fail
            generalize wr.alloc (.cells #[.string x.path, .slice la x.lines.length lcap] 76) = w3 at hA b0 b1 ⊢
            have hc3 := hc.trans hA
            refine (line_path_any x.path _ m (hc3.cellNever hm)).mono ?_
            rintro e w4 ⟨rfl, hc4⟩
            have b0 := hc4.cellNever b0
            have b1 := hc4.cellNever b1
            have hcD := hc3.trans hc4
            clear hc4 hc3 hA c0 c1
            rw [P0.out, errV_zero]
            go_wp2_with fail
            refine (check_any x.lines _ _ (hlv.never hcD)).mono ?_
            rintro e w5 ⟨rfl, rfl⟩
            rw [L0.out, errV_zero]
            clear b1
            rcases Nat.eq_zero_or_pos k with h0 | h0
            · subst h0
              have HNX : Hid (treeFault t = treeGo (0 + 1) (prevOf t (0 + 1)) (t.drop (0 + 1))) := by rw [Hid, HPV.out, hG.out]; exact treeGo_next HD.out HFF.out rfl
              clear hG
              go_wp2_with fail
              go_quiet (fail)
              go_wp2_with fail
              go_roundw
              case rel => exact ⟨0 + 1, by omega, by go_num, hcD.drewN _, HNX⟩
              case measure => simp [intOf] <;> omega
            · obtain ⟨k', rfl⟩ : ∃ k', k = k' + 1 := ⟨k - 1, by omega⟩
              obtain ⟨y, hy⟩ : ∃ y, t[k']? = some y := ⟨t[k']'(by omega), by simp [show k' < t.length by omega]⟩
              obtain ⟨b', off', lv', hbo, _, _, y0, _, _, _⟩ := elems_file h3 hy
              simp only [Option.some.injEq, Addr.mk.injEq, and_true] at hbo
              obtain ⟨rfl, rfl⟩ := hbo
              have y0 := hcD.cellNever y0
              have HPY : Hid (prevOf t (k' + 1) = some y.path) := prevOf_succ hy
              have z1 : (k' : Int) + 1 - 1 = k' := by omega
              have z2 : decide ((0 : Int) < (k' : Int) + 1) = true := decide_eq_true (by omega)
              clear hy
              rcases less_tri x.path y.path with g | g | g
              · have HE : Hid (treeFault t = (k' + 1, 2)) := by rw [Hid, hG.out, HPY.out]; exact treeGo_order HD.out HFF.out (leqB_true.2 (less_asymm g))
                have a1 : Op.bytesLess x.path.toList y.path.toList = true := g
                clear g hG
                go_wp2_with fail
                go_quiet (fail)
                go_wp2_with fail; go_ret2; exact ⟨by rw [HE.out]; rfl, hcD.drewN _⟩
              · have HE : Hid (treeFault t = (k' + 1, 2)) := by rw [Hid, hG.out, HPY.out]; exact treeGo_order HD.out HFF.out (leqB_true.2 (by rw [g]; exact less_irrefl _))
                have a1 : Op.bytesLess x.path.toList y.path.toList = false := by rw [g]; exact bl_irrefl _
                have a2 : (x.path.toList == y.path.toList) = true := by rw [g]; exact beq_self_eq_true _
                clear g hG
                go_wp2_with fail
                go_quiet (fail)
                go_wp2_with fail; go_ret2; exact ⟨by rw [HE.out]; rfl, hcD.drewN _⟩
              · have HNX : Hid (treeFault t = treeGo (k' + 1 + 1) (prevOf t (k' + 1 + 1)) (t.drop (k' + 1 + 1))) := by
                  rw [Hid, HPV.out, hG.out]
                  refine treeGo_next HD.out HFF.out ?_
                  rw [HPY.out, Option.any_some, Bool.eq_false_iff]
                  intro e
                  rw [leqB_true.1 e] at g; cases g
                have a1 : Op.bytesLess x.path.toList y.path.toList = false := less_asymm g
                have a2 := str_beq_false (less_ne g).symm
                clear g hG
                go_wp2_with fail
                go_quiet (fail)
                go_wp2_with fail
                go_roundw
                case rel => exact ⟨k' + 1 + 1, by omega, by go_num, hcD.drewN _, HNX⟩
                case measure => simp [intOf] <;> omega
          · have HE : Hid (treeFault t = (k, linesFault x.lines)) := by
              have e : fileFault x = linesFault x.lines := by unfold fileFault; rw [if_pos p0]
              rw [Hid, hG.out, treeGo_bad HD.out (by rw [e]; exact l0), e]
            have L0 := Lib.hid l0
            clear p0 hG l0
            go_wp2_with fail
            generalize wr.alloc (.cells #[.string x.path, .slice la x.lines.length lcap] 76) = w3 at hA b0 b1 ⊢
            have hc3 := hc.trans hA
            refine (line_path_any x.path _ m (hc3.cellNever hm)).mono ?_
            rintro e w4 ⟨rfl, hc4⟩
            have b0 := hc4.cellNever b0
            have b1 := hc4.cellNever b1
            have hcD := hc3.trans hc4
            clear hc4 hc3 hA c0 c1
            rw [P0.out, errV_zero]
            go_wp2_with fail
            refine (check_any x.lines _ _ (hlv.never hcD)).mono ?_
            rintro e w5 ⟨rfl, rfl⟩
            rw [errV_pos L0.out]
            go_wp2_with fail
            go_ret2
            exact ⟨by rw [HE.out, errV_pos L0.out]; rfl, hcD⟩
        · have HE : Hid (treeFault t = (k, pathFault x.path)) := by
            have e : fileFault x = pathFault x.path := by unfold fileFault; rw [if_neg p0]
            rw [Hid, hG.out, treeGo_bad HD.out (by rw [e]; exact p0), e]
          have P0 := Lib.hid p0
          clear p0 hG
          go_wp2_with fail
          generalize wr.alloc (.cells #[.string x.path, .slice la x.lines.length lcap] 76) = w3 at hA b0 b1 ⊢
          have hc3 := hc.trans hA
          refine (line_path_any x.path _ m (hc3.cellNever hm)).mono ?_
          rintro e w4 ⟨rfl, hc4⟩
          have b0 := hc4.cellNever b0
          have b1 := hc4.cellNever b1
          have hcD := hc3.trans hc4
          clear hc4 hc3 hA c0 c1
          rw [errV_pos P0.out]
          go_wp2_with fail
          go_ret2
          exact ⟨by rw [HE.out, errV_pos P0.out]; rfl, hcD⟩
      · obtain rfl : k = t.length := by omega
        have e := hG.out
        rw [treeGo_end] at e
        have HE := Lib.hid e
        clear hG e
        go_wp2_with fail
        go_ret2
        exact ⟨by rw [HE.out]; rfl, hc⟩

set_option maxHeartbeats 2000000 in
set_option maxRecDepth 100000 in
theorem refTree_any (t : List File) (v : Value) (w : World) (h : Rdv w Never v t) :
    Calls Tryz.prog 31 #[v] w fun e w' => e = .returned (.tuple #[.int .i64 (treeFault t).1, .int .i64 (treeFault t).2]) ∧ Chg Never w w' := by
  obtain ⟨a, cap, rfl, h1, h2, h3⟩ := rdv_slice h
  unfold maxLen at h2
  by_cases h8 : 8 < t.length
  · have HF : Hid (treeFault t = (0, 3)) := if_pos h8
    go_enter Tryz.func31, Tryz.ntmps31
    go_wp2_with fail
    go_ret2
    exact ⟨by rw [HF.out]; rfl, Chg.refl _ _⟩
  · have HF : Hid (treeFault t = treeGo 0 (prevOf t 0) (t.drop 0)) := if_neg h8
    go_enter Tryz.func31, Tryz.ntmps31
    go_wp2_with fail
    go_loopw [4] (fun i wr => ∃ k : Nat, k ≤ t.length ∧ i = .int .i64 k ∧ Chg Never w wr ∧ Hid (treeFault t = treeGo k (prevOf t k) (t.drop k))) (fun i _ => t.length - (intOf i).toNat)
    case atStart => exact ⟨0, Nat.zero_le _, rfl, Chg.refl _ _, HF.out⟩
    case round =>
      clear HF
      obtain ⟨k, hk, rfl, hc, hG⟩ := hrel
      by_cases hlt : k < t.length
      · obtain ⟨x, hx⟩ : ∃ x, t[k]? = some x := ⟨t[k], by simp [hlt]⟩
        obtain ⟨b, off, lv, rfl, _, _, d0, d1, hps, hlv⟩ := elems_file h3 hx
        have c0 := hc.cellNever d0
        have HD := Lib.hid (drop_eq hx)
        have HPV := Lib.hid (prevOf_succ hx)
        have HX := Lib.hid hx
        have D0 := Lib.hid d0
        have D1 := Lib.hid d1
        clear hx d0 d1
        by_cases p0 : pathFault x.path = 0
        · have P0 := Lib.hid p0
          by_cases l0 : linesFault x.lines = 0
          · have HFF : Hid (fileFault x = 0) := by unfold Hid fileFault; rw [if_pos p0, l0]
            have L0 := Lib.hid l0
            clear p0 l0
            go_wp2_with fail
            refine (refPath_any x.path _).mono ?_
            rintro e w4 ⟨rfl, hc4⟩
            have hc4 := hc.trans hc4
            have c1 := hc4.cellNever D1.out
            clear c0
            rw [P0.out]
            go_wp2_with fail
            refine (refLines_any x.lines _ _ (hlv.never hc4)).mono ?_
            rintro e w5 ⟨rfl, hc5⟩
            have hc5 := hc4.trans hc5
            have c0 := hc5.cellNever D0.out
            rw [L0.out]
            clear c1 hc4
            have hcD := hc5
            clear hc5
            rcases Nat.eq_zero_or_pos k with h0 | h0
            · subst h0
              have HNX : Hid (treeFault t = treeGo (0 + 1) (prevOf t (0 + 1)) (t.drop (0 + 1))) := by rw [Hid, HPV.out, hG.out]; exact treeGo_next HD.out HFF.out rfl
              clear hG
              go_wp2_with fail
              go_quiet (fail)
              go_wp2_with fail
              go_roundw
              case rel => exact ⟨0 + 1, by omega, by go_num, hcD.drewN _, HNX⟩
              case measure => simp [intOf] <;> omega
            · obtain ⟨k', rfl⟩ : ∃ k', k = k' + 1 := ⟨k - 1, by omega⟩
              obtain ⟨y, hy⟩ : ∃ y, t[k']? = some y := ⟨t[k']'(by omega), by simp [show k' < t.length by omega]⟩
              obtain ⟨b', off', lv', hbo, _, _, y0, _, _, _⟩ := elems_file h3 hy
              simp only [Option.some.injEq, Addr.mk.injEq, and_true] at hbo
              obtain ⟨rfl, rfl⟩ := hbo
              have y0 := hcD.cellNever y0
              have HPY : Hid (prevOf t (k' + 1) = some y.path) := prevOf_succ hy
              have z1 : (k' : Int) + 1 - 1 = k' := by omega
              have z2 : decide ((0 : Int) < (k' : Int) + 1) = true := decide_eq_true (by omega)
              clear hy
              rcases less_tri x.path y.path with g | g | g
              · have HE : Hid (treeFault t = (k' + 1, 2)) := by rw [Hid, hG.out, HPY.out]; exact treeGo_order HD.out HFF.out (leqB_true.2 (less_asymm g))
                have a1 : Op.bytesLess x.path.toList y.path.toList = true := g
                clear g hG
                go_wp2_with fail
                go_quiet (fail)
                go_wp2_with fail; go_ret2; exact ⟨by rw [HE.out]; rfl, hcD.drewN _⟩
              · have HE : Hid (treeFault t = (k' + 1, 2)) := by rw [Hid, hG.out, HPY.out]; exact treeGo_order HD.out HFF.out (leqB_true.2 (by rw [g]; exact less_irrefl _))
                have a1 : Op.bytesLess x.path.toList y.path.toList = false := by rw [g]; exact bl_irrefl _
                have a2 : (x.path.toList == y.path.toList) = true := by rw [g]; exact beq_self_eq_true _
                clear g hG
                go_wp2_with fail
                go_quiet (fail)
                go_wp2_with fail; go_ret2; exact ⟨by rw [HE.out]; rfl, hcD.drewN _⟩
              · have HNX : Hid (treeFault t = treeGo (k' + 1 + 1) (prevOf t (k' + 1 + 1)) (t.drop (k' + 1 + 1))) := by
                  rw [Hid, HPV.out, hG.out]
                  refine treeGo_next HD.out HFF.out ?_
                  rw [HPY.out, Option.any_some, Bool.eq_false_iff]
                  intro e
                  rw [leqB_true.1 e] at g; cases g
                have a1 : Op.bytesLess x.path.toList y.path.toList = false := less_asymm g
                have a2 := str_beq_false (less_ne g).symm
                clear g hG
                go_wp2_with fail
                go_quiet (fail)
                go_wp2_with fail
                go_roundw
                case rel => exact ⟨k' + 1 + 1, by omega, by go_num, hcD.drewN _, HNX⟩
                case measure => simp [intOf] <;> omega
          · have HE : Hid (treeFault t = (k, linesFault x.lines)) := by
              have e : fileFault x = linesFault x.lines := by unfold fileFault; rw [if_pos p0]
              rw [Hid, hG.out, treeGo_bad HD.out (by rw [e]; exact l0), e]
            have t1 : (linesFault x.lines == 0) = false := by simp [l0]
            have t2 : (linesFault x.lines != 0) = true := by simp [l0]
            clear p0 l0 hG
            go_wp2_with fail
            refine (refPath_any x.path _).mono ?_
            rintro e w4 ⟨rfl, hc4⟩
            have hc4 := hc.trans hc4
            have c1 := hc4.cellNever D1.out
            clear c0
            rw [P0.out]
            go_wp2_with fail
            refine (refLines_any x.lines _ _ (hlv.never hc4)).mono ?_
            rintro e w5 ⟨rfl, hc5⟩
            have hc5 := hc4.trans hc5
            clear c1 hc4
            go_wp2_with fail
            go_quiet (fail)
            go_wp2_with fail
            go_ret2
            exact ⟨by rw [HE.out]; rfl, hc5.drewN _⟩
        · have HE : Hid (treeFault t = (k, pathFault x.path)) := by
            have e : fileFault x = pathFault x.path := by unfold fileFault; rw [if_neg p0]
            rw [Hid, hG.out, treeGo_bad HD.out (by rw [e]; exact p0), e]
          have t1 : (pathFault x.path == 0) = false := by simp [p0]
          have t2 : (pathFault x.path != 0) = true := by simp [p0]
          clear p0 hG
          go_wp2_with fail
          refine (refPath_any x.path _).mono ?_
          rintro e w4 ⟨rfl, hc5⟩
          have hc5 := hc.trans hc5
          clear c0
          go_wp2_with fail
          go_quiet (fail)
          go_wp2_with fail
          go_ret2
          exact ⟨by rw [HE.out]; rfl, hc5.drewN _⟩
      · obtain rfl : k = t.length := by omega
        have e := hG.out
        rw [treeGo_end] at e
        have HE := Lib.hid e
        clear hG e
        go_wp2_with fail
        go_ret2
        exact ⟨by rw [HE.out]; rfl, hc⟩

/-- what Place answers -/
def placeI (t : List File) (p : ByteArray) : Int := match placeOf t p with | some i => i | none => -1
set_option maxHeartbeats 1000000 in
set_option maxRecDepth 100000 in
theorem refPlace_any (t : List File) (p : ByteArray) (v : Value) (w : World) (h : Rdv w Never v t) :
    Calls Tryz.prog 32 #[v, .string p] w fun e w' => e = .returned (.int .i64 (placeI t p)) ∧ Chg Never w w' := by
  obtain ⟨a, cap, rfl, h1, h2, h3⟩ := rdv_slice h
  unfold maxLen at h2
  go_enter Tryz.func32, Tryz.ntmps32
  go_wp2_with fail
  go_loopw [5] (fun i wr => ∃ k : Nat, k ≤ t.length ∧ i = .int .i64 k ∧ Chg Never w wr ∧ Hid (placeOf t p = ((t.drop k).findIdx? fun f => decide (f.path = p)).map (· + k))) (fun i _ => t.length - (intOf i).toNat)
  case atStart => exact ⟨0, Nat.zero_le _, rfl, Chg.refl _ _, by rw [Hid, List.drop_zero]; unfold placeOf; cases t.findIdx? fun f => decide (f.path = p) <;> rfl⟩
  case round =>
    obtain ⟨k, hk, rfl, hc, hP⟩ := hrel
    by_cases hlt : k < t.length
    · obtain ⟨x, hx⟩ : ∃ x, t[k]? = some x := ⟨t[k], by simp [hlt]⟩
      obtain ⟨b, off, lv, rfl, _, _, c0, _, hps, _⟩ := elems_file h3 hx
      have c0 := hc.cellNever c0
      have HD := Lib.hid (drop_eq hx)
      clear hx h3 h
      by_cases e : x.path = p
      · have HE : Hid (placeI t p = k) := by
          unfold Hid placeI
          rw [hP.out, HD.out, List.findIdx?_cons, decide_eq_true e]
          simp
        have t1 : (x.path.toList == p.toList) = true := by rw [e]; exact beq_self_eq_true _
        clear e
        go_wp2_with fail
        go_ret
        exact ⟨by rw [HE.out]; rfl, hc⟩
      · have HN : Hid (placeOf t p = ((t.drop (k + 1)).findIdx? fun f => decide (f.path = p)).map (· + (k + 1))) := by
          rw [Hid, hP.out, HD.out, List.findIdx?_cons, decide_eq_false e]
          cases (t.drop (k + 1)).findIdx? fun f => decide (f.path = p) with
          | none => rfl
          | some i => simp; omega
        have t1 := str_beq_false e
        clear e hP
        go_wp2_with fail
        go_roundw
        case rel => exact ⟨k + 1, by omega, by go_num, hc, HN.out⟩
        case measure => simp [intOf] <;> omega
    · have HE : Hid (placeI t p = -1) := by
        unfold Hid placeI
        rw [hP.out, List.drop_eq_nil_of_le (by omega)]; rfl
      go_wp2_with fail
      go_ret
      exact ⟨by rw [HE.out]; rfl, hc⟩
end Go.Proofs.YteocmmejfnmjcaaGreatDoor
