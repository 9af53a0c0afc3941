/-
  PARTS: THE WALKS of the document's LineFault, LinesFault, ScriptFault.; A SLICE OF A SLICE, as a run, at whatever element type.; TEXTS IN PARTS: small laws on rows of strings (light: no function of layers 1 to 9).; THE WALKS of the document's Parts, SplitOf, JoinOf, and of line.Split, line.Join.; THE WALK of unified.Parse.; MORE ON SLICES THAT append HAS BUILT.; THE WALKS of patch.all and of the document's whole.; THE WALK of the document's readHunks (handstitchref2).
-/
import Derived.Test.YtmojaahkcpgfkaaGreatDoorPackUi4
import Derived.Test.YtmojaahkcpgfkaaGreatDoorPackUi2
import Derived.Test.YtmojaahkcpgfkaaGreatDoorPackUi1
import Derived.Test.YtmojaahkcpgfkaaGreatDoorPackUi7
import Derived.Test.YtmojaahkcpgfkaaGreatDoorPackUi6
namespace Go.Proofs.YtmojaahkcpgfkaaGreatDoor
open Go.RowKit

theorem nl_mem {s : ByteArray} {k : Nat} (hlt : k < s.size) (h : (((s[k]'hlt).toNat : Int) == 10) = true) : hasNl s = true := by
  unfold hasNl
  have h1 : (s[k]'hlt).toNat = 10 := by have := eq_of_beq h; omega
  have h2 : s[k]'hlt = (10 : UInt8) := UInt8.toNat_inj.1 h1
  have h3 : s.data[k]'hlt = (10 : UInt8) := h2
  rw [List.contains_iff_mem, Array.mem_toList_iff]
  rw [← h3]
  exact Array.getElem_mem _
theorem nl_none {s : ByteArray} (h : ∀ (j : Nat) (hj : j < s.size), (((s[j]'hj).toNat : Int) == 10) = false) : hasNl s = false := by
  unfold hasNl
  rw [Bool.eq_false_iff]
  intro e
  rw [List.contains_iff_mem, Array.mem_toList_iff] at e
  obtain ⟨j, hj, e⟩ := Array.mem_iff_getElem.1 e
  have := h j hj
  have h2 : s[j]'hj = (10 : UInt8) := e
  rw [h2] at this
  exact absurd this (by decide)

set_option maxHeartbeats 1000000 in
set_option maxRecDepth 100000 in
theorem refLine_any (s : ByteArray) (w : World) (hs : s.size ≤ maxLen) :
    Calls Tryz.prog 40 #[.string s] w fun e w' => e = .returned (.int .i64 (lineFault s)) ∧ Chg Never w w' := by
  unfold maxLen at hs
  go_enter Tryz.func40, Tryz.ntmps40
  go_wp2_with fail
  go_loopw [3] (fun i wr => ∃ k : Nat, k ≤ s.size ∧ i = .int .i64 k ∧ Chg Never w wr ∧ Hid (∀ (j : Nat), j < k → ∀ (hj : j < s.size), (((s[j]'hj).toNat : Int) == 10) = false)) (fun i _ => s.size - (intOf i).toNat)
  case atStart => exact ⟨0, Nat.zero_le _, rfl, Chg.refl _ _, fun j h => absurd h (Nat.not_lt_zero j)⟩
  case round =>
    obtain ⟨k, hk, rfl, hc, hf⟩ := hrel
    by_cases hlt : k < s.size
    · cases hq : (((s[k]'hlt).toNat : Int) == 10) with
      | true =>
        have HN := Lib.hid (nl_mem hlt hq)
        go_wp2_with fail
        go_ret
        exact ⟨by rw [lineFault, if_pos HN.out]; rfl, hc⟩
      | false =>
        have HQ : Hid ((((s[k]'hlt).toNat : Int) == 10) = false) := hq
        go_wp2_with fail
        go_roundw
        case rel => exact ⟨k + 1, by omega, by go_num, hc, fun j hj hj' => by
          by_cases e : j = k
          · subst e; exact HQ.out
          · exact hf.out j (by omega) hj'⟩
        case measure => simp [intOf] <;> omega
    · have HN := Lib.hid (nl_none (fun j hj => hf.out j (by omega) hj))
      clear hf
      by_cases h80 : 80 < s.size
      · go_wp2_with fail
        go_ret
        exact ⟨by rw [lineFault, if_neg (by rw [HN.out]; decide), if_pos h80]; rfl, hc⟩
      · go_wp2_with fail
        go_ret
        exact ⟨by rw [lineFault, if_neg (by rw [HN.out]; decide), if_neg h80]; rfl, hc⟩

theorem firstOf_bad {α : Type} (f : α → Int) : ∀ (l : List α) (k : Nat) (x : α), (∀ y ∈ l.take k, f y = 0) → l[k]? = some x → f x ≠ 0 → firstOf f l = f x
  | [], _, _, _, h, _ => by simp at h
  | y :: r, 0, x, _, h, hx => by
    simp only [List.getElem?_cons_zero, Option.some.injEq] at h
    subst h
    rw [firstOf, if_neg hx]
  | y :: r, k + 1, x, ha, h, hx => by
    rw [firstOf, if_pos (ha y (by simp))]
    exact firstOf_bad f r k x (fun z hz => ha z (by simp [hz])) (by simpa using h) hx
theorem take_all_succ {α : Type} {p : α → Prop} {l : List α} {k : Nat} {x : α} (h : ∀ y ∈ l.take k, p y) (hx : l[k]? = some x) (hp : p x) : ∀ y ∈ l.take (k + 1), p y := by
  intro y hy
  rw [List.take_add_one, hx] at hy
  rcases List.mem_append.1 hy with h' | h'
  · exact h y h'
  · simp at h'; rw [h']; exact hp

theorem markFault_line' {sg : Int} (h : sg = 32 ∨ sg = 45 ∨ sg = 43) (tx : ByteArray) : markFault ⟨sg, tx⟩ = lineFault tx := by
  unfold markFault
  rw [if_neg (by simp only []; omega)]
set_option maxHeartbeats 2000000 in
set_option maxRecDepth 100000 in
theorem refScript_any (l : List Mark) (v : Value) (w : World) (h : Rdv w Never v l) :
    Calls Tryz.prog 20 #[v] w fun e w' => e = .returned (.int .i64 (scriptFault l)) ∧ Chg Never w w' := by
  obtain ⟨a, cap, rfl, h1, h2, h3⟩ := rdv_slice h
  unfold maxLen at h2
  by_cases h60 : 120 < l.length
  · have HF : Hid (scriptFault l = 3) := if_pos h60
    go_enter Tryz.func20, Tryz.ntmps20
    go_wp2_with fail
    go_ret
    exact ⟨by rw [HF.out]; rfl, Chg.refl _ _⟩
  · have HF : Hid (scriptFault l = firstOf markFault l) := if_neg h60
    go_enter Tryz.func20, Tryz.ntmps20
    go_wp2_with fail
    go_loopw [3] (fun i wr => ∃ k : Nat, k ≤ l.length ∧ i = .int .i64 k ∧ Chg Never w wr ∧ Hid (∀ y ∈ l.take k, markFault y = 0)) (fun i _ => l.length - (intOf i).toNat)
    case atStart => exact ⟨0, Nat.zero_le _, rfl, Chg.refl _ _, fun y hy => by simp at hy⟩
    case round =>
      obtain ⟨k, hk, rfl, hc, hf⟩ := hrel
      by_cases hlt : k < l.length
      · obtain ⟨x, hx⟩ : ∃ x, l[k]? = some x := ⟨l[k], by simp [hlt]⟩
        obtain ⟨b, off, rfl, _, _, c0, c1, s0, s1, hxs⟩ := elems_mark h3 hx
        have c0 := hc.cellNever c0
        have c1 := hc.cellNever c1
        obtain ⟨sg, tx⟩ := x
        simp only at c0 c1 s0 s1 hxs
        have HX := Lib.hid hx
        clear hx h3 h
        by_cases hs : sg = 32 ∨ sg = 45 ∨ sg = 43
        · have HM := Lib.hid (markFault_line' hs tx)
          by_cases hz : lineFault tx = 0
          · have HZ : Hid (markFault ⟨sg, tx⟩ = 0) := by rw [Hid, HM.out, hz]
            have HL := Lib.hid hz
            clear hz
            rcases hs with rfl | rfl | rfl
            all_goals
              go_wp2_with fail
              refine (refLine_any tx _ hxs).mono ?_
              rintro e w2 ⟨rfl, hc2⟩
              rw [HL.out]
              have hc := hc.trans hc2
              go_wp2_with fail
              go_roundw
              case rel => exact ⟨k + 1, by omega, by go_num, hc, take_all_succ hf.out HX.out HZ.out⟩
              case measure => simp [intOf] <;> omega
          · have HB := Lib.hid (firstOf_bad markFault l k _ hf.out HX.out (by rw [HM.out]; exact hz))
            have t1 : (lineFault tx == 0) = false := by simp [hz]
            have t2 : (lineFault tx != 0) = true := by simp [hz]
            clear hz
            rcases hs with rfl | rfl | rfl
            all_goals
              go_wp2_with fail
              refine (refLine_any tx _ hxs).mono ?_
              rintro e w2 ⟨rfl, hc2⟩
              have hc := hc.trans hc2
              go_wp2_with fail
              go_ret
              exact ⟨by rw [HF.out, HB.out, HM.out]; rfl, hc⟩
        · have HZ : Hid (markFault ⟨sg, tx⟩ = 1) := by unfold Hid markFault; rw [if_pos (by simp only []; omega)]
          have HB := Lib.hid (firstOf_bad markFault l k _ hf.out HX.out (by rw [HZ.out]; decide))
          have t1 : (sg != 32) = true := by simp; omega
          have t2 : (sg != 45) = true := by simp; omega
          have t3 : (sg != 43) = true := by simp; omega
          clear hs
          go_wp2_with fail
          go_ret
          exact ⟨by rw [HF.out, HB.out, HZ.out]; rfl, hc⟩
      · have HZ := Lib.hid ((firstOf_zero markFault l).2 (fun y hy => hf.out y (by rw [List.take_of_length_le (by omega)]; exact hy)))
        go_wp2_with fail
        go_ret
        exact ⟨by rw [HF.out, HZ.out]; rfl, hc⟩
end Go.Proofs.YtmojaahkcpgfkaaGreatDoor
namespace Go.Proofs.YtmojaahkcpgfkaaGreatDoor
open Go.RowKit

theorem size_mark (w : World) : (sizeOf (Tryz.prog.elem 40)).run Tryz.prog w = .ok 2 w := by kernel_rfl
/-- 's[i:j]' as a run, at whatever element type -/
theorem slice_gen {P : Program} {t : TypeId} (ht : P.underlying t = some (.slice (P.elem t))) {α : Type} [Dat α] (hsz : ∀ w, (sizeOf (P.elem t)).run P w = .ok (Dat.n α) w) {w0 : World} {O : Nat → Prop} {a : Option Addr} {cap : Nat} {l : List α} (h : Rdv w0 O (.slice a l.length cap) l) (i j : Nat) (hij : i ≤ j) (hj : j ≤ l.length) :
    ∃ b, (∀ (x y : Int) (w : World), x = i → y = j → (Instr.slice t (.slice a l.length cap) (some (.int .i64 x)) (some (.int .i64 y)) none).run P w = .ok (.slice b (j - i) (cap - i)) w) ∧
      (∀ (x : Int) (w : World), x = i → j = l.length → (Instr.slice t (.slice a l.length cap) (some (.int .i64 x)) none none).run P w = .ok (.slice b (j - i) (cap - i)) w) ∧
      (∀ (y : Int) (w : World), i = 0 → y = j → (Instr.slice t (.slice a l.length cap) none (some (.int .i64 y)) none).run P w = .ok (.slice b (j - i) (cap - i)) w) ∧
      Rdv w0 O (.slice b (j - i) (cap - i)) ((l.drop i).take (j - i)) := by
  have hr := rdv_sliced h i j hij hj
  obtain ⟨b, hb⟩ := sliced_isSlice a i j cap (Dat.n α)
  obtain ⟨a', cap', e, h1, h2, h3⟩ := rdv_slice h
  simp only [Value.slice.injEq, true_and] at e
  obtain ⟨rfl, rfl⟩ := e
  refine ⟨b, ?_, ?_, ?_, hb ▸ hr⟩
  · rintro x y w rfl rfl
    rw [run_slice_lh w t a l.length cap ht .i64 .i64 _ _ (by omega) (by omega) (by omega), hsz]
    simp only [Result.andThen_ok, Int.toNat_natCast]
    rw [hb]
  · rintro x w rfl rfl
    rw [run_slice_l w t a l.length cap ht .i64 _ (by omega) (by omega), hsz]
    simp only [Result.andThen_ok, Int.toNat_natCast]
    rw [hb]
  · rintro y w rfl rfl
    rw [run_slice_h w t a l.length cap ht .i64 _ (by omega) (by omega), hsz]
    simp only [Result.andThen_ok, Int.toNat_natCast]
    rw [hb]
end Go.Proofs.YtmojaahkcpgfkaaGreatDoor
namespace Go.Proofs.YtmojaahkcpgfkaaGreatDoor
open Go.RowKit
theorem last_of {l : List (List UInt8)} (h : l ≠ []) : ∃ i z, l = i ++ [z] := ⟨l.dropLast, l.getLast h, (List.dropLast_concat_getLast h).symm⟩
theorem rdv_strs {w : World} {O : Nat → Prop} {g : Nat} {e : TypeId} {l : List ByteArray} {n : Nat} (h : w.heap[g]? = some (.cells (l.map Value.string).toArray e (0, 0))) (hO : ¬ O g) (hn : n = l.length) (hl : l.length ≤ maxLen) (hs : ∀ x ∈ l, x.size ≤ maxLen) : Rdv w O (.slice (some ⟨g, 0, none⟩) n n) l := by
  subst hn
  refine ⟨some ⟨g, 0, none⟩, l.length, rfl, Nat.le_refl _, hl, ?_⟩
  intro i x hx
  refine ⟨g, 0, [.string x], rfl, hO, ?_, rfl, hs x (List.mem_of_getElem? hx)⟩
  intro j u hj
  match j, hj with
  | 0, hj =>
    simp only [List.getElem?_cons_zero, Option.some.injEq] at hj
    subst hj
    simp only [World.cell?, h]
    simp [Dat.n, hx]
theorem suffix_snoc (b : List UInt8) : Lib.hasSuffix (b ++ [10]) [10] = true ∧ Lib.trimSuffix (b ++ [10]) [10] = b := by
  have e : Lib.hasSuffix (b ++ [10]) [10] = true := by
    unfold Lib.hasSuffix
    rw [List.isSuffixOf_iff_suffix]
    exact List.suffix_append b [10]
  refine ⟨e, ?_⟩
  unfold Lib.trimSuffix
  rw [if_pos e]
  simp
theorem suffix_not {b : List UInt8} {c : UInt8} (h : c ≠ 10) : Lib.hasSuffix (b ++ [c]) [10] = false := by
  unfold Lib.hasSuffix
  rw [Bool.eq_false_iff]
  intro e
  rw [List.isSuffixOf_iff_suffix] at e
  obtain ⟨t, ht⟩ := e
  have := (List.append_inj' ht rfl).2
  simp at this
  exact h this.symm
theorem str_ne_empty {s : ByteArray} (h : s ≠ ByteArray.empty) : ∃ b c, s.data.toList = b ++ [c] := by
  have hne : s.data.toList ≠ [] := by
    intro e
    apply h
    apply ByteArray.ext
    apply Array.toList_inj.1
    rw [e]; rfl
  exact ⟨s.data.toList.dropLast, s.data.toList.getLast hne, (List.dropLast_concat_getLast hne).symm⟩
end Go.Proofs.YtmojaahkcpgfkaaGreatDoor
namespace Go.Proofs.YtmojaahkcpgfkaaGreatDoor
open Go.RowKit

theorem parts_count (d : UInt8) : ∀ s, (parts d s).length ≤ s.length + 1
  | [] => by simp [parts]
  | c :: r => by
    have := parts_count d r
    by_cases h : c = d
    · subst h; rw [parts_sep]; simp; omega
    · obtain ⟨h', t, e⟩ := List.exists_cons_of_ne_nil (parts_ne d r)
      rw [parts_other h e]
      rw [e] at this
      simp at this ⊢
      omega

theorem joinL_size {l : List ByteArray} (h : ∀ x ∈ l, x.size ≤ 80) : (joinL l).length ≤ 81 * l.length := by
  induction l with
  | nil => simp [joinL]
  | cons x l ih =>
    have h1 := ih (fun y hy => h y (List.mem_cons_of_mem _ hy))
    have h2 := h x (List.mem_cons_self ..)
    rw [Lib.size_eq] at h2
    rw [joinL_cons]
    simp only [List.length_append, List.length_cons]
    omega
theorem linesFault_size {l : List ByteArray} (h : linesFault l = 0) : ∀ x ∈ l, x.size ≤ 80 := by
  unfold linesFault at h
  by_cases e : 60 < l.length
  · rw [if_pos e] at h; cases h
  · rw [if_neg e, firstOf_zero] at h
    intro x hx
    have := h x hx
    unfold lineFault at this
    by_cases e1 : hasNl x = true
    · rw [if_pos e1] at this; cases this
    · rw [if_neg e1] at this
      by_cases e2 : 80 < x.size
      · rw [if_pos e2] at this; cases this
      · omega
theorem joinOf_step {l : List ByteArray} {k : Nat} {x : ByteArray} (hx : l[k]? = some x) : joinOf (l.take k) ++ x ++ ⟨#[10]⟩ = joinOf (l.take (k + 1)) := by
  unfold joinOf
  rw [List.take_add_one, hx, joinL_append]
  apply ByteArray.ext
  apply Array.toList_inj.1
  rw [bytes_append, bytes_append, toB_data, toB_data]
  simp [joinL]
theorem joinL_step {l : List ByteArray} {k : Nat} {x : ByteArray} (hx : l[k]? = some x) : Lib.byteCells (joinL (l.take k)) ++ Lib.strCells x ++ [.int .u8 10] = Lib.byteCells (joinL (l.take (k + 1))) := by
  rw [List.take_add_one, hx, joinL_append, Lib.byteCells_append, Lib.strCells_eq, List.append_assoc]
  congr 1
  simp [joinL, Lib.byteCells_append]
  rfl

theorem parts_mem (d : UInt8) : ∀ (s : List UInt8) (x : List UInt8), x ∈ parts d s → x.length ≤ s.length
  | [], x, h => by simp [parts] at h; subst h; simp
  | c :: r, x, h => by
    have ih := parts_mem d r
    by_cases hc : c = d
    · subst hc
      rw [parts_sep] at h
      rcases List.mem_cons.1 h with rfl | h
      · simp
      · have := ih x h; simp; omega
    · obtain ⟨h', t, e⟩ := List.exists_cons_of_ne_nil (parts_ne d r)
      rw [parts_other hc e] at h
      rw [e] at ih
      rcases List.mem_cons.1 h with rfl | h
      · have := ih h' (List.mem_cons_self ..); simp; omega
      · have := ih x (List.mem_cons_of_mem _ h); simp; omega
end Go.Proofs.YtmojaahkcpgfkaaGreatDoor
namespace Go.Proofs.YtmojaahkcpgfkaaGreatDoor
open Go.RowKit

def linesB (l : List ByteArray) : List (List UInt8) := l.map fun x => x.data.toList
theorem linesB_toB (I : List (List UInt8)) : linesB (I.map toB) = I := by
  unfold linesB
  rw [List.map_map]
  have : ((fun x : ByteArray => x.data.toList) ∘ toB) = id := by funext x; exact toB_data x
  rw [this, List.map_id]
theorem linesB_get {l : List ByteArray} {k : Nat} {x : ByteArray} (h : l[k]? = some x) : (linesB l)[k]? = some x.data.toList := by
  unfold linesB
  rw [List.getElem?_map, h]; rfl
set_option maxHeartbeats 2000000 in
set_option maxRecDepth 100000 in
theorem uniparse_any (s : ByteArray) (w : World) (hs : s.size ≤ 100000000) (m : Int) (hg : Globs w m) :
    Calls Tryz.prog 11 #[.string s] w fun e w' => ∃ r, e = .returned (.tuple #[r, .int .i64 ((parseU s.data.toList).2.1 : Nat), errV (parseU s.data.toList).2.2]) ∧ Chg Never w w' ∧ Rdv w' Never r (parseU s.data.toList).1 := by
  have hsz := Lib.size_eq s
  by_cases hl : 400000 < s.size
  · have HR := Lib.hid (pu_long (s := s.data.toList) (by omega))
    clear hsz
    go_enter Tryz.func11, Tryz.ntmps11
    go_wp2_with fail
    go_ret3
    exact ⟨_, by rw [HR.out]; rfl, Chg.refl _ _, by rw [HR.out]; exact rdv_nil _ _⟩
  · obtain ⟨I, z, hIz⟩ := last_of (parts_ne 10 s.data.toList)
    have hcnt := parts_count 10 s.data.toList
    have hpm := parts_mem 10 s.data.toList
    have HIZ := Lib.hid hIz
    have HSP : Hid (Lib.splitB ⟨#[10]⟩ 0 (Lib.countB s ⟨#[10]⟩) s = I.map toB ++ [toB z]) := by rw [Hid, splitB_parts, hIz, List.map_append]; rfl
    have HLEN : Hid (Lib.countB s ⟨#[10]⟩ + 1 = (I.map toB ++ [toB z]).length) := by
      have := Lib.splitB_all ⟨#[10]⟩ (by decide) 0 _ s rfl
      rw [Hid, ← this, HSP.out]
    have hIl : I.length ≤ 1000000 := by
      rw [hIz, List.length_append] at hcnt
      simp only [List.length_cons, List.length_nil] at hcnt
      omega
    have hIs : Hid (∀ x ∈ I.map toB ++ [toB z], x.size ≤ 1000000000) := by
      intro x hx
      have : ∃ y ∈ parts 10 s.data.toList, x = toB y := by
        rw [hIz]
        rcases List.mem_append.1 hx with hx | hx
        · obtain ⟨y, hy, rfl⟩ := List.mem_map.1 hx
          exact ⟨y, List.mem_append_left _ hy, rfl⟩
        · simp only [List.mem_cons, List.not_mem_nil, or_false] at hx
          exact ⟨z, by simp, hx⟩
      obtain ⟨y, hy, rfl⟩ := this
      have := hpm y hy
      rw [toB_size']
      omega
    have hbL := linesB_toB I
    have hLI : Hid ((I.map toB).length = I.length) := by rw [Hid, List.length_map]
    have hLl : (I.map toB).length ≤ 1000000 := by rw [List.length_map]; exact hIl
    have hl4 : Hid (s.data.toList.length ≤ 400000) := by rw [Hid]; omega
    clear hIz hcnt hpm hIl hsz
    generalize I.map toB = L at HSP HLEN hIs hbL hLl hLI
    subst hbL
    go_enter Tryz.func11, Tryz.ntmps11
    go_wp2_with fail
    have hbox := Blk3.new w 73 (.slice none 0 0) (.int .i64 (0 : Nat)) (.int .i64 (0 : Nat))
    have hA0 : Chg Never w (w.alloc (.cells #[.slice none 0 0, .int .i64 0, .int .i64 0] 73)) := (Chg.refl Never w).alloc _
    have hbox : Blk3 (w.alloc (.cells #[.slice none 0 0, .int .i64 0, .int .i64 0] 73)) w.heap.size 73 (.slice none 0 0) (.int .i64 (0 : Nat)) (.int .i64 (0 : Nat)) := hbox
    generalize w.alloc (.cells #[.slice none 0 0, .int .i64 0, .int .i64 0] 73) = w1 at hbox hA0 ⊢
    have hlt1 := hbox.lt
    refine (Tryz.strings_Split s ⟨#[10]⟩ m _ (by omega) (hA0.cellNever hg.ml) (by decide)).mono ?_
    rintro e w2 ⟨rfl, rfl⟩
    rw [HSP.out, HLEN.out]
    have hA : Chg Never w1 (w1.alloc (.cells ((L ++ [toB z]).map Value.string).toArray 9)) := (Chg.refl Never w1).alloc _
    have hR0 : Rdv (w1.alloc (.cells ((L ++ [toB z]).map Value.string).toArray 9)) (fun k => k = w.heap.size) (.slice (some ⟨w1.heap.size, 0, none⟩) (L ++ [toB z]).length (L ++ [toB z]).length) (L ++ [toB z]) :=
      rdv_strs (heap_alloc_new _ _) (fun e => by omega) rfl (by rw [List.length_append]; simp only [List.length_cons, List.length_nil]; unfold maxLen; omega) (fun x hx => by have := hIs.out x hx; unfold maxLen; omega)
    have hbox := hbox.keep hA (fun h => h)
    have hA := hA0.trans hA
    generalize w1.alloc (.cells ((L ++ [toB z]).map Value.string).toArray 9) = w3 at hR0 hA hbox ⊢
    generalize w1.heap.size = G at hR0 hlt1 ⊢
    obtain ⟨sb, -, -, hrun, hsub⟩ := slice_g (P := Tryz.prog) (t := 56) (by kernel_rfl) size_str hR0 0 L.length (Nat.zero_le _) (by simp)
    obtain ⟨_, _, hq, -, -, hel⟩ := rdv_slice hR0
    simp only [Value.slice.injEq, true_and] at hq
    obtain ⟨rfl, rfl⟩ := hq
    obtain ⟨g, off, hq, hgB, hglt, cz, -⟩ := elems_str hel (i := L.length) (x := toB z) (by simp)
    simp only [Option.some.injEq, Addr.mk.injEq, and_true] at hq
    obtain ⟨rfl, rfl⟩ := hq
    rw [List.drop_zero, Nat.sub_zero, Nat.sub_zero, List.take_left] at hsub
    have hNL : (L ++ [toB z]).length = L.length + 1 := by simp
    rw [hNL] at hrun hsub ⊢
    rw [Nat.sub_zero, Nat.sub_zero] at hrun
    have hrun := fun (wx : World) => hrun (L.length : Nat) wx rfl rfl
    have sw : IntKind.i64.wrap (((L.length + 1 : Nat) : Int) - 1) = (L.length : Int) := by rw [show ((L.length + 1 : Nat) : Int) - 1 = (L.length : Int) by omega]; exact IntWalk.i64_in _ (by omega)
    simp only [Nat.zero_add] at cz
    have hLs : Hid (∀ x ∈ L, x.size ≤ 1000000000) := fun x hx => hIs.out x (List.mem_append_left _ hx)
    obtain ⟨n, hn⟩ : ∃ n, L.length = n := ⟨_, rfl⟩
    have HN := Lib.hid hn
    obtain ⟨_, _, hq, -, -, hel⟩ := rdv_slice hsub
    simp only [Value.slice.injEq, true_and] at hq
    obtain ⟨rfl, rfl⟩ := hq
    have HLL : Hid ((linesB L).length = n) := by rw [Hid]; unfold linesB; rw [List.length_map]; exact hn
    rw [hn] at hrun cz sw hLl ⊢
    obtain ⟨B, hB⟩ : ∃ B, w.heap.size = B := ⟨_, rfl⟩
    have hBw : w.heap.size ≤ B := Nat.le_of_eq hB
    rw [hB] at hbox hgB hel ⊢
    clear hR0 hNL hB hsub hlt1 hA0 hn
    go_wp2_with fail
    clear hrun
    go_loopw [25] (fun iv wr => ∃ (k : Nat) (vr : Value) (hs : List Hunk) (o d : Nat), k ≤ n ∧ iv = .int .i64 k ∧ Chg (RdC w3.heap.size B) w3 wr ∧ RdrAt wr w3.heap.size B vr hs o d ∧ Hid (RdB hs o d k) ∧ Hid (GoInv (linesB L) k hs o d)) (fun iv _ => n - (intOf iv).toNat)
    case atStart => exact ⟨0, _, [], 0, 0, Nat.zero_le _, rfl, Chg.refl _ _, RdrAt.start hbox (Nat.le_refl _), rdB_start, ginv_start _⟩
    case round =>
      obtain ⟨k, vr, hs, o, d, hk, rfl, hc, hR, hB, hI⟩ := hrel
      rename World => wr
      have hw : Chg Never w wr := hA.trans' hc (fun i hi hh => hh.elim (fun e => absurd hi (by omega)) (fun e => absurd hi (by have := hA.size; omega)))
      have hgx := hg.never hw
      have hbx := hR.box
      obtain ⟨va, vn, vc, rfl⟩ := own_isSlice hR.own
      by_cases hlt : k < n
      · obtain ⟨x, hx⟩ : ∃ x, L[k]? = some x := ⟨L[k]'(by have := HN.out; omega), by simp⟩
        obtain ⟨b', off', rfl, hnb, hbl, c0, -⟩ := elems_str hel hx
        have c0 := hc.cell c0 (fun hh => hh.elim hnb (fun e => Nat.not_lt_of_le e hbl))
        have zx := hLs.out x (List.mem_of_getElem? hx)
        have HX := Lib.hid (linesB_get hx)
        clear hx hel
        go_wp2_with fail
        refine (reader_line w3.heap.size B (.slice va vn vc) hs o d x _ hR hB.out.ok zx ⟨by have := hB.out.on; omega, by have := hB.out.on; omega⟩ (by have := hB.out.len; omega) (fun h hh => by have := hB.out.marks h hh; omega) m hgx).mono ?_
        rintro e wy ⟨hcy, hp⟩
        cases hrl : readLine hs o d x.data.toList with
        | none =>
          rw [hrl] at hp
          subst hp
          have HR := Lib.hid (pu_bad hl4.out HIZ.out (ginv_bad hI.out HX.out hrl))
          have hwy : Chg Never w wy := hw.trans' hcy (fun i hi hh => hh.elim (fun e => absurd hi (by omega)) (fun e => absurd hi (by have := hA.size; omega)))
          clear hrl c0
          go_wp2_with fail
          go_ret3
          exact ⟨_, by rw [HR.out]; rfl, hwy, by rw [HR.out]; exact rdv_nil _ _⟩
        | some t =>
          obtain ⟨hs', o', d'⟩ := t
          rw [hrl] at hp
          obtain ⟨rfl, vr', hR'⟩ := hp
          have hI2 := Lib.hid (ginv_step hI.out HX.out hrl)
          have hB2 := Lib.hid (rdB_step hB.out hrl)
          have hcz := hc.trans hcy
          clear hrl c0
          go_wp2_with fail
          go_roundw
          case rel => exact ⟨k + 1, vr', hs', o', d', by omega, by go_num, hcz, hR', hB2, hI2⟩
          case measure => simp [intOf]; omega
      · obtain rfl : k = n := by omega
        have HE := Lib.hid (ginv_end hI.out (Nat.le_of_eq HLL.out))
        have cz := hc.cell cz (fun hh => hh.elim hgB (fun e => Nat.not_lt_of_le e hglt))
        clear hel hI
        by_cases hop : 0 < o ∨ 0 < d
        · have HO := Lib.hid (opn_true hop)
          have HR0 := Lib.hid (pu_open hl4.out HIZ.out HE.out hop)
          have HR : Hid (parseU s.data.toList = ([], k, 5)) := by rw [Hid, HR0.out, HLL.out]
          clear hop
          go_wp2_with fail
          refine (rd_open B (.slice va vn vc) o d _ hbx).mono ?_
          rintro e w4 ⟨rfl, rfl⟩
          rename World => wr
          rw [HO.out]
          go_wp2_with fail
          go_ret3
          exact ⟨_, by rw [HR.out]; rfl, hw, by rw [HR.out]; exact rdv_nil _ _⟩
        · have HO := Lib.hid (opn_false hop)
          cases z with
          | cons c z =>
            have HR0 := Lib.hid (pu_last hl4.out HIZ.out HE.out (by simp))
            have HR : Hid (parseU s.data.toList = ([], k, 5)) := by rw [Hid, HR0.out, HLL.out]
            have tz : (toB (c :: z)).toList = c :: z := by rw [Lib.toList_data, toB_data]
            clear hop
            go_wp2_with fail
            refine (rd_open B (.slice va vn vc) o d _ hbx).mono ?_
            rintro e w4 ⟨rfl, rfl⟩
            rename World => wr
            rw [HO.out]
            go_wp2_with fail
            go_ret3
            exact ⟨_, by rw [HR.out]; rfl, hw, by rw [HR.out]; exact rdv_nil _ _⟩
          | nil =>
            have HR0 := Lib.hid (pu_fine hl4.out HIZ.out HE.out hop)
            have tz : (toB []).toList = [] := by rw [Lib.toList_data, toB_data]
            have hv : Rdv wr Never (.slice va vn vc) hs := hR.rdv.sub (fun _ _ h => h.elim)
            obtain ⟨x0, -, -⟩ := hbx.cell
            clear hop
            go_wp2_with fail
            refine (rd_open B (.slice va vn vc) o d _ hbx).mono ?_
            rintro e w4 ⟨rfl, rfl⟩
            rename World => wr
            rw [HO.out]
            go_wp2_with fail
            refine (hunk_check_any hs _ _ hv).mono ?_
            rintro e w5 ⟨rfl, hc5⟩
            have hv5 := hv.never hc5
            have x0 := hc5.cellNever x0
            have hw5 := hw.trans hc5
            generalize (hunksFault hs).1 = at0
            by_cases hz : (hunksFault hs).2 = 0
            · have HR : Hid (parseU s.data.toList = (hs, 0, 0)) := by rw [Hid, HR0.out, if_neg (by rw [hz]; decide)]
              rw [hz, errV_zero]
              clear hz
              go_wp2_with fail
              go_ret3
              exact ⟨_, by rw [HR.out]; rfl, hw5, by rw [HR.out]; exact hv5⟩
            · have HR : Hid (parseU s.data.toList = ([], 0, (hunksFault hs).2)) := by rw [Hid, HR0.out, if_pos hz]
              have HZ := Lib.hid hz
              rw [errV_pos hz]
              clear hz
              go_wp2_with fail
              go_ret3
              exact ⟨.slice none 0 0, by rw [HR.out]; show _ = Ending.returned (.tuple #[.slice none 0 0, .int .i64 0, errV (hunksFault hs).2]); rw [errV_pos HZ.out]; rfl, hw5, by rw [HR.out]; exact rdv_nil _ _⟩
end Go.Proofs.YtmojaahkcpgfkaaGreatDoor
namespace Go.Proofs.YtmojaahkcpgfkaaGreatDoor
open Go.RowKit

theorem own_out {α : Type} [Dat α] {e : TypeId} {w : World} {O : Nat → Prop} {v : Value} {l : List α} (h : Own e w O v l) : ∀ k, v.ownBlock = some k → ¬ O k := by
  obtain ⟨_, _, q, _⟩ := h
  exact q
end Go.Proofs.YtmojaahkcpgfkaaGreatDoor
namespace Go.Proofs.YtmojaahkcpgfkaaGreatDoor
open Go.RowKit

theorem wholeR_nil (s : Int) : wholeR [] s = [] := if_pos rfl
theorem wholeR_some {l : List ByteArray} (h : l ≠ []) (s : Int) : wholeR l s = [⟨0, 0, l.map fun x => ⟨s, x⟩⟩] := if_neg h
theorem sign_take {l : List ByteArray} {k : Nat} {x : ByteArray} {s : Int} (hx : l[k]? = some x) : (l.take (k + 1)).map (fun x => (⟨s, x⟩ : Mark)) = (l.take k).map (fun x => (⟨s, x⟩ : Mark)) ++ [⟨s, x⟩] := by
  rw [List.take_add_one, hx]; simp
theorem rdv_lit_hunk {w : World} {x : Hunk} {mv : Value} {t : TypeId} (h : Rdv w Never mv x.marks) : Rdv (w.alloc (.cells #[.int .i64 x.old, .int .i64 x.new, mv] t)) Never (.slice (some ⟨w.heap.size, 0, none⟩) 1 1) [x] :=
  rdv_lit (e := t) (cs := [.int .i64 x.old, .int .i64 x.new, mv]) (heap_alloc_new _ _) rfl (by decide) ⟨⟨mv, rfl, h.never ((Chg.refl Never w).alloc _)⟩, trivial⟩
theorem rdv_hunkO {w : World} {O : Nat → Prop} {x : Hunk} {mv : Value} {t : TypeId} (h : Rdv w O mv x.marks) (hO : ¬ O w.heap.size) : Rdv (w.alloc (.cells #[.int .i64 x.old, .int .i64 x.new, mv] t)) O (.slice (some ⟨w.heap.size, 0, none⟩) 1 1) [x] := by
  refine ⟨some ⟨w.heap.size, 0, none⟩, 1, rfl, Nat.le_refl _, by decide, ?_⟩
  intro i y hy
  obtain rfl : i = 0 := by
    cases i with
    | zero => rfl
    | succ i => simp at hy
  simp only [List.getElem?_cons_zero, Option.some.injEq] at hy
  subst hy
  refine ⟨w.heap.size, 0, [.int .i64 x.old, .int .i64 x.new, mv], rfl, hO, ?_, ⟨mv, rfl, h.never ((Chg.refl Never w).alloc _)⟩⟩
  intro j u hj
  simp only [World.cell?, heap_alloc_new]
  simpa using hj
end Go.Proofs.YtmojaahkcpgfkaaGreatDoor
namespace Go.Proofs.YtmojaahkcpgfkaaGreatDoor
open Go.RowKit

set_option maxHeartbeats 2000000 in
set_option maxRecDepth 100000 in
theorem readHunks_any (L : List ByteArray) (i : Nat) (v : Value) (w : World) (h : Rdv w Never v L) (hL : L.length ≤ 1000000) (hz : ∀ x ∈ L, x.size ≤ 1000000000) (hi : i ≤ L.length) :
    Calls Tryz.prog 30 #[v, .int .i64 i] w fun e w' => ∃ r, e = .returned (.tuple #[r, .int .i64 ((refTake ((linesB L).drop i) i [] 0 0).2.1 : Nat), .bool (refTake ((linesB L).drop i) i [] 0 0).2.2]) ∧ Chg Never w w' ∧ Rdv w' (Old w.heap.size) r (refTake ((linesB L).drop i) i [] 0 0).1 := by
  have HI := tak_start (linesB L) i
  generalize refTake ((linesB L).drop i) i [] 0 0 = R at HI ⊢
  have HI := Lib.hid HI
  obtain ⟨a, cap, rfl, h1, h2, h3⟩ := rdv_slice h
  unfold maxLen at h2
  have HZ := Lib.hid hz
  have hLL : (linesB L).length = L.length := by unfold linesB; rw [List.length_map]
  have HLL := Lib.hid hLL
  clear hz h hLL
  go_enter Tryz.func30, Tryz.ntmps30
  go_wp2_with fail
  go_loopw [1, 7] (fun av ov wr => ∃ (k : Nat) (hs : List Hunk), k ≤ L.length ∧ av = .int .i64 k ∧ Chg Never w wr ∧ Own 42 wr (Old w.heap.size) ov hs ∧ Hid (hs.length ≤ k) ∧ Hid (TakInv (linesB L) R k hs 0 0)) (fun av _ _ => L.length - (intOf av).toNat)
  case atStart => exact ⟨i, [], hi, rfl, Chg.refl _ _, own_nil _ _ _, Nat.zero_le _, HI⟩
  case round =>
    clear HI
    obtain ⟨k, hs, hk, rfl, hc, hown, hhl, hI⟩ := hrel
    rename World => wr
    obtain ⟨va, vn, vc, rfl⟩ := own_isSlice hown
    by_cases hlt : k < L.length
    · obtain ⟨x, hx⟩ : ∃ x, L[k]? = some x := ⟨L[k], by simp [hlt]⟩
      obtain ⟨b, off, rfl, _, _, c0, hxs⟩ := elems_str h3 hx
      have c0 := hc.cellNever c0
      have zx := HZ.out x (List.mem_of_getElem? hx)
      have HX := Lib.hid (linesB_get hx)
      have HS := fun wx => starts_any x (toB [64, 64]) wx zx (by decide)
      have HH := fun wx => refHeadOf_any x zx wx
      rw [toB_data] at HS
      unfold headV at HH
      clear hx
      go_wp2_with fail
      refine (HS _).mono ?_
      rintro e w1 ⟨rfl, rfl⟩
      rename World => wr
      cases hhd : [64, 64].isPrefixOf x.data.toList with
      | false =>
        have HR := Lib.hid (tak_stop hI.out HX.out hhd)
        clear hI hhd HH HS c0 h3
        go_wp2_with fail
        go_ret3
        exact ⟨_, by rw [HR.out]; rfl, hc, by rw [HR.out]; exact hown.rdv⟩
      | true =>
        have HD := Lib.hid hhd
        clear hhd
        go_wp2_with fail
        refine (HH _).mono ?_
        rintro e w2 ⟨p, q, o0, n0, ok, rfl, hc2, hsay⟩
        clear HH HS c0
        have hcw2 := hc.trans hc2
        rcases hsay with ⟨rfl, hno⟩ | ⟨rfl, hyes⟩
        · have HR := Lib.hid (tak_head_bad hI.out HX.out HD.out hno)
          clear hI hno h3
          go_wp2_with fail
          go_ret3
          exact ⟨_, by rw [HR.out]; rfl, hcw2.alloc _, by rw [HR.out]; exact rdv_nil _ _⟩
        · have hI2 := Lib.hid (tak_head hI.out HX.out HD.out hyes)
          have hon0 : o0 ≤ 1000 ∧ n0 ≤ 1000 := by have := headOf_lt hyes; omega
          have hown2 := hown.never hc2
          have hBx0 := Blk3.new w2 42 (.int .i64 p) (.int .i64 q) (.slice none 0 0)
          have hcA : Chg Never w2 (w2.alloc (.cells #[.int .i64 p, .int .i64 q, .slice none 0 0] 42)) := (Chg.refl Never w2).alloc _
          have hownA := hown2.keep (O'' := fun g => Old w.heap.size g ∨ w2.heap.size ≤ g) hcA (fun _ _ hh => hh.elim) (fun g hg hh => hh.elim (fun h => h) (fun h => by omega))
          have hvoB := own_block_lt hown2
          have hBw := hcw2.size
          have hcwA := hcw2.trans hcA
          have hBl := hBx0.lt
          clear hyes hI hown hown2 hc hc2 hcw2 HD HX
          go_wp2_with fail
          generalize w2.alloc (.cells #[.int .i64 p, .int .i64 q, .slice none 0 0] 42) = wB at hBx0 hcA hownA hcwA hBl ⊢
          generalize w2.heap.size = B at hBx0 hownA hvoB hBw hBl ⊢
          clear hcA
          go_loopw [1, 9, 10] (fun av ov nv wi => ∃ (j o n : Nat) (mv : Value) (ms : List Mark), k + 1 ≤ j ∧ j ≤ L.length ∧ av = .int .i64 j ∧ ov = .int .i64 o ∧ nv = .int .i64 n ∧ Chg (fun g => B ≤ g) wB wi ∧ Blk3 wi B 42 (.int .i64 p) (.int .i64 q) mv ∧ Own 39 wi (Old (B + 1)) mv ms ∧ (o ≤ 1000 ∧ n ≤ 1000) ∧ Hid (ms.length ≤ j) ∧ Hid (TakInv (linesB L) R j (hs ++ [⟨p, q, ms⟩]) o n)) (fun av _ _ _ => L.length - (intOf av).toNat)
          case atStart => exact ⟨k + 1, o0, n0, .slice none 0 0, [], Nat.le_refl _, hlt, by go_num, rfl, rfl, Chg.refl _ _, hBx0, own_nil _ _ _, hon0, Nat.zero_le _, hI2⟩
          case round =>
            clear hI2 hBx0
            obtain ⟨j, o, n, mv, ms, hkj, hjl, rfl, rfl, rfl, hc2, hBx, hmk, ⟨ho9, hn9⟩, hmj, hI⟩ := hrel
            rename World => wi
            obtain ⟨ma, mn, mc, rfl⟩ := own_isSlice hmk
            have hBlt := hBx.lt
            have hcw : Chg Never w wi := hcwA.trans' hc2 (fun g hg hh => absurd hh (by omega))
            have hml : ms.length ≤ 1000000000 := by have := hmj.out; omega
            by_cases ho : 0 < o
            · have tgo : decide ((0 : Int) < (o : Int)) = true := decide_eq_true (by omega)
              have eo : ((o : Int) == 0) = false := by simp; omega
              rcases Nat.lt_or_ge j L.length with hjlt | hjge
              rotate_left
              · have HR : Hid (R = ([], j, false)) := tak_open hI.out (by rw [HLL.out]; exact hjge) (.inl ho)
                clear hI hmk hBx h3
                go_wp2_with fail
                go_ret3
                exact ⟨_, by rw [HR.out]; rfl, hcw, by rw [HR.out]; exact rdv_nil _ _⟩
              obtain ⟨y, hy⟩ : ∃ y, L[j]? = some y := ⟨L[j], by simp [hjlt]⟩
              obtain ⟨b', off', hqe, -, -, d0, -⟩ := elems_str h3 hy
              simp only [Option.some.injEq, Addr.mk.injEq, and_true] at hqe
              obtain ⟨rfl, rfl⟩ := hqe
              have d0 := hcw.cellNever d0
              have zy := HZ.out y (List.mem_of_getElem? hy)
              have HY := Lib.hid (linesB_get hy)
              clear hy
              rcases hyl : y.data.toList with _ | ⟨c, r⟩
              · have e1 : ((y.size : Int) == 0) = true := by rw [Lib.size_eq, hyl]; rfl
                rw [hyl] at HY
                clear hyl
                have HR : Hid (R = ([], j, false)) := tak_nil hI.out HY.out (.inl ho)
                clear hI hmk hBx h3
                go_wp2_with fail
                go_ret3
                exact ⟨_, by rw [HR.out]; rfl, hcw, by rw [HR.out]; exact rdv_nil _ _⟩
              have e1 : ((y.size : Int) == 0) = false := by rw [Lib.size_eq, hyl]; simp; omega
              have hpos : 0 < y.size := by rw [Lib.size_eq, hyl]; simp
              have h1s : (1 : Int) ≤ (y.size : Int) := by omega
              have hc0 : y[0]'hpos = c := by
                have : y.data.toList[0]? = some (y[0]'hpos) := by rw [Array.getElem?_toList, Array.getElem?_eq_getElem hpos]; rfl
                rw [hyl] at this
                injection this with this
                exact this.symm
              have htx : (y.extract 1 y.size) = toB r := by
                apply ByteArray.ext
                apply Array.toList_inj.1
                rw [Lib.extract_data, hyl, toB_data, List.take_of_length_le (by rw [List.length_drop, Lib.size_eq, hyl]; simp)]
                rfl
              have htz : (toB r).size ≤ maxLen := by rw [toB_size']; have := Lib.size_eq y; rw [hyl] at this; simp at this; unfold maxLen; omega
              have hsx : ∀ wx, (Instr.index 9 (.string y) (.int .i64 0)).run Tryz.prog wx = .ok (.int .u8 c.toNat) wx := fun wx => by
                rw [run_index_string _ _ _ _ _ Tryz.underlying9, dif_pos ⟨by omega, by omega⟩]
                simp only [Int.toNat_zero, hc0]
              rw [hyl] at HY
              clear hyl hc0
              by_cases hn : 0 < n
              · have en : ((n : Int) == 0) = false := by simp; omega
                by_cases h32 : c = 32
                · subst c
                  have hsx : ∀ wx, (Instr.index 9 (.string y) (.int .i64 0)).run Tryz.prog wx = .ok (.int .u8 32) wx := hsx
                  obtain ⟨tx, htxe⟩ : ∃ tx, toB r = tx := ⟨_, rfl⟩
                  rw [htxe] at htx htz
                  have hI2 := Lib.hid (tak_keep hI.out HY.out ho hn)
                  rw [htxe] at hI2
                  clear htxe
                  have hOm : ∀ q, Old (B + 1) q → q < wi.drew.heap.size := fun q hq => by
                    have e : wi.drew.heap.size = wi.heap.size := rfl
                    rw [e]; unfold Old at hq; omega
                  obtain ⟨f0, f1, f2⟩ := hBx.cell
                  have hB' := hBx.keep (O := Never) (Chg.refl Never wi).drew (fun h => h)
                  have hmk' := hmk.never (Chg.refl Never wi).drew
                  have hc' := hc2.drew
                  clear hI h3
                  go_upto_region 17 with fail
                  clear hBx hmk
                  go_region_law ((refine step_push (by rfl) _ _ 40 (by rfl) elemOk_mark (O := Old (B + 1)) (l := ms) (y := ⟨32, tx⟩) (by rfl) (by rfl) (by simp) hmk' (rd_mark _ _ 32 tx (by decide) (by decide) htz) hOm hml ?_; intro v' w5 hmk5 hc5 hk5; obtain ⟨ad, nn, cc, rfl⟩ := own_slice hk5; have hB5 := hB'.keep hc5 (fun hh => own_out hmk' _ hh (Nat.lt_succ_self _)); obtain ⟨g0, g1, g2⟩ := hB5.cell; have g3 := hB5.free 2))
                  all_goals
                    have hB6 := hB5.set2 (.slice (some ad) nn cc)
                    have hmk6 := hmk5.keep (O' := fun q => q = B) (O'' := Old (B + 1)) ((Chg.refl (fun q => q = B) w5).setCell (p := ⟨B, 2, none⟩) (.inr rfl) (.slice (some ad) nn cc)) (fun q _ hq => by have h : q = B := hq; unfold Old; omega) (fun _ _ hh => hh)
                    have hc6 := (hc'.trans' hc5 (O := fun q => B ≤ q) (fun i hi hh => by have := own_out hmk' i hh; unfold Old at this; omega)).setCell (p := ⟨B, 2, none⟩) (.inr (Nat.le_refl B)) (.slice (some ad) nn cc)
                    clear g0 g1 g2 g3 hB5 hmk5 hc5 hk5 hB' hmk' hc' f0 f1 f2
                    go_wp2_with fail
                    go_roundw
                    case rel => exact ⟨j + 1, o - 1, n - 1, .slice (some ad) nn cc, ms ++ [⟨32, tx⟩], by omega, by omega, by go_num, by go_num, by go_num, hc6, hB6, hmk6, by omega, by rw [Hid, List.length_append]; have := hmj.out; simp; omega, hI2⟩
                    case measure => simp [intOf] <;> omega
                · by_cases h45 : c = 45
                  · subst c
                    have hsx : ∀ wx, (Instr.index 9 (.string y) (.int .i64 0)).run Tryz.prog wx = .ok (.int .u8 45) wx := hsx
                    obtain ⟨tx, htxe⟩ : ∃ tx, toB r = tx := ⟨_, rfl⟩
                    rw [htxe] at htx htz
                    have hI2 := Lib.hid (tak_take hI.out HY.out ho)
                    rw [htxe] at hI2
                    clear htxe
                    have hOm : ∀ q, Old (B + 1) q → q < wi.drew.heap.size := fun q hq => by
                      have e : wi.drew.heap.size = wi.heap.size := rfl
                      rw [e]; unfold Old at hq; omega
                    obtain ⟨f0, f1, f2⟩ := hBx.cell
                    have hB' := hBx.keep (O := Never) (Chg.refl Never wi).drew (fun h => h)
                    have hmk' := hmk.never (Chg.refl Never wi).drew
                    have hc' := hc2.drew
                    clear hI h3
                    go_upto_region 17 with fail
                    clear hBx hmk
                    go_region_law ((refine step_push (by rfl) _ _ 40 (by rfl) elemOk_mark (O := Old (B + 1)) (l := ms) (y := ⟨45, tx⟩) (by rfl) (by rfl) (by simp) hmk' (rd_mark _ _ 45 tx (by decide) (by decide) htz) hOm hml ?_; intro v' w5 hmk5 hc5 hk5; obtain ⟨ad, nn, cc, rfl⟩ := own_slice hk5; have hB5 := hB'.keep hc5 (fun hh => own_out hmk' _ hh (Nat.lt_succ_self _)); obtain ⟨g0, g1, g2⟩ := hB5.cell; have g3 := hB5.free 2))
                    all_goals
                      have hB6 := hB5.set2 (.slice (some ad) nn cc)
                      have hmk6 := hmk5.keep (O' := fun q => q = B) (O'' := Old (B + 1)) ((Chg.refl (fun q => q = B) w5).setCell (p := ⟨B, 2, none⟩) (.inr rfl) (.slice (some ad) nn cc)) (fun q _ hq => by have h : q = B := hq; unfold Old; omega) (fun _ _ hh => hh)
                      have hc6 := (hc'.trans' hc5 (O := fun q => B ≤ q) (fun i hi hh => by have := own_out hmk' i hh; unfold Old at this; omega)).setCell (p := ⟨B, 2, none⟩) (.inr (Nat.le_refl B)) (.slice (some ad) nn cc)
                      clear g0 g1 g2 g3 hB5 hmk5 hc5 hk5 hB' hmk' hc' f0 f1 f2
                      go_wp2_with fail
                      go_roundw
                      case rel => exact ⟨j + 1, o - 1, n, .slice (some ad) nn cc, ms ++ [⟨45, tx⟩], by omega, by omega, by go_num, by go_num, by go_num, hc6, hB6, hmk6, by omega, by rw [Hid, List.length_append]; have := hmj.out; simp; omega, hI2⟩
                      case measure => simp [intOf] <;> omega
                  · by_cases h43 : c = 43
                    · subst c
                      have hsx : ∀ wx, (Instr.index 9 (.string y) (.int .i64 0)).run Tryz.prog wx = .ok (.int .u8 43) wx := hsx
                      obtain ⟨tx, htxe⟩ : ∃ tx, toB r = tx := ⟨_, rfl⟩
                      rw [htxe] at htx htz
                      have hI2 := Lib.hid (tak_put hI.out HY.out hn)
                      rw [htxe] at hI2
                      clear htxe
                      have hOm : ∀ q, Old (B + 1) q → q < wi.drew.heap.size := fun q hq => by
                        have e : wi.drew.heap.size = wi.heap.size := rfl
                        rw [e]; unfold Old at hq; omega
                      obtain ⟨f0, f1, f2⟩ := hBx.cell
                      have hB' := hBx.keep (O := Never) (Chg.refl Never wi).drew (fun h => h)
                      have hmk' := hmk.never (Chg.refl Never wi).drew
                      have hc' := hc2.drew
                      clear hI h3
                      go_upto_region 17 with fail
                      clear hBx hmk
                      go_region_law ((refine step_push (by rfl) _ _ 40 (by rfl) elemOk_mark (O := Old (B + 1)) (l := ms) (y := ⟨43, tx⟩) (by rfl) (by rfl) (by simp) hmk' (rd_mark _ _ 43 tx (by decide) (by decide) htz) hOm hml ?_; intro v' w5 hmk5 hc5 hk5; obtain ⟨ad, nn, cc, rfl⟩ := own_slice hk5; have hB5 := hB'.keep hc5 (fun hh => own_out hmk' _ hh (Nat.lt_succ_self _)); obtain ⟨g0, g1, g2⟩ := hB5.cell; have g3 := hB5.free 2))
                      all_goals
                        have hB6 := hB5.set2 (.slice (some ad) nn cc)
                        have hmk6 := hmk5.keep (O' := fun q => q = B) (O'' := Old (B + 1)) ((Chg.refl (fun q => q = B) w5).setCell (p := ⟨B, 2, none⟩) (.inr rfl) (.slice (some ad) nn cc)) (fun q _ hq => by have h : q = B := hq; unfold Old; omega) (fun _ _ hh => hh)
                        have hc6 := (hc'.trans' hc5 (O := fun q => B ≤ q) (fun i hi hh => by have := own_out hmk' i hh; unfold Old at this; omega)).setCell (p := ⟨B, 2, none⟩) (.inr (Nat.le_refl B)) (.slice (some ad) nn cc)
                        clear g0 g1 g2 g3 hB5 hmk5 hc5 hk5 hB' hmk' hc' f0 f1 f2
                        go_wp2_with fail
                        go_roundw
                        case rel => exact ⟨j + 1, o, n - 1, .slice (some ad) nn cc, ms ++ [⟨43, tx⟩], by omega, by omega, by go_num, by go_num, by go_num, hc6, hB6, hmk6, by omega, by rw [Hid, List.length_append]; have := hmj.out; simp; omega, hI2⟩
                        case measure => simp [intOf] <;> omega
                    · have q1 : ((c.toNat : Int) != 32) = true := by simpa using byte_ne_int h32 rfl
                      have q2 : ((c.toNat : Int) != 45) = true := by simpa using byte_ne_int h45 rfl
                      have q3 : ((c.toNat : Int) != 43) = true := by simpa using byte_ne_int h43 rfl
                      have q1b := byte_ne_int h32 rfl
                      have q2b := byte_ne_int h45 rfl
                      have q3b := byte_ne_int h43 rfl
                      have HR : Hid (R = ([], j, false)) := tak_sign_bad hI.out HY.out (.inl ho) h32 h45 h43
                      clear hI hmk hBx h3
                      go_wp2_with fail
                      go_ret3
                      exact ⟨_, by rw [HR.out]; rfl, hcw, by rw [HR.out]; exact rdv_nil _ _⟩
              · have en : ((n : Int) == 0) = true := by simp; omega
                by_cases h32 : c = 32
                · subst c
                  have hsx : ∀ wx, (Instr.index 9 (.string y) (.int .i64 0)).run Tryz.prog wx = .ok (.int .u8 32) wx := hsx
                  obtain ⟨tx, htxe⟩ : ∃ tx, toB r = tx := ⟨_, rfl⟩
                  rw [htxe] at htx htz
                  have HR : Hid (R = ([], j, false)) := tak_keep_bad hI.out HY.out (.inl ho) (.inr (by omega))
                  clear hI hmk hBx h3
                  go_wp2_with fail
                  go_ret3
                  exact ⟨_, by rw [HR.out]; rfl, hcw, by rw [HR.out]; exact rdv_nil _ _⟩
                · by_cases h45 : c = 45
                  · subst c
                    have hsx : ∀ wx, (Instr.index 9 (.string y) (.int .i64 0)).run Tryz.prog wx = .ok (.int .u8 45) wx := hsx
                    obtain ⟨tx, htxe⟩ : ∃ tx, toB r = tx := ⟨_, rfl⟩
                    rw [htxe] at htx htz
                    have hI2 := Lib.hid (tak_take hI.out HY.out ho)
                    rw [htxe] at hI2
                    clear htxe
                    have hOm : ∀ q, Old (B + 1) q → q < wi.drew.heap.size := fun q hq => by
                      have e : wi.drew.heap.size = wi.heap.size := rfl
                      rw [e]; unfold Old at hq; omega
                    obtain ⟨f0, f1, f2⟩ := hBx.cell
                    have hB' := hBx.keep (O := Never) (Chg.refl Never wi).drew (fun h => h)
                    have hmk' := hmk.never (Chg.refl Never wi).drew
                    have hc' := hc2.drew
                    clear hI h3
                    go_upto_region 17 with fail
                    clear hBx hmk
                    go_region_law ((refine step_push (by rfl) _ _ 40 (by rfl) elemOk_mark (O := Old (B + 1)) (l := ms) (y := ⟨45, tx⟩) (by rfl) (by rfl) (by simp) hmk' (rd_mark _ _ 45 tx (by decide) (by decide) htz) hOm hml ?_; intro v' w5 hmk5 hc5 hk5; obtain ⟨ad, nn, cc, rfl⟩ := own_slice hk5; have hB5 := hB'.keep hc5 (fun hh => own_out hmk' _ hh (Nat.lt_succ_self _)); obtain ⟨g0, g1, g2⟩ := hB5.cell; have g3 := hB5.free 2))
                    all_goals
                      have hB6 := hB5.set2 (.slice (some ad) nn cc)
                      have hmk6 := hmk5.keep (O' := fun q => q = B) (O'' := Old (B + 1)) ((Chg.refl (fun q => q = B) w5).setCell (p := ⟨B, 2, none⟩) (.inr rfl) (.slice (some ad) nn cc)) (fun q _ hq => by have h : q = B := hq; unfold Old; omega) (fun _ _ hh => hh)
                      have hc6 := (hc'.trans' hc5 (O := fun q => B ≤ q) (fun i hi hh => by have := own_out hmk' i hh; unfold Old at this; omega)).setCell (p := ⟨B, 2, none⟩) (.inr (Nat.le_refl B)) (.slice (some ad) nn cc)
                      clear g0 g1 g2 g3 hB5 hmk5 hc5 hk5 hB' hmk' hc' f0 f1 f2
                      go_wp2_with fail
                      go_roundw
                      case rel => exact ⟨j + 1, o - 1, n, .slice (some ad) nn cc, ms ++ [⟨45, tx⟩], by omega, by omega, by go_num, by go_num, by go_num, hc6, hB6, hmk6, by omega, by rw [Hid, List.length_append]; have := hmj.out; simp; omega, hI2⟩
                      case measure => simp [intOf] <;> omega
                  · by_cases h43 : c = 43
                    · subst c
                      have hsx : ∀ wx, (Instr.index 9 (.string y) (.int .i64 0)).run Tryz.prog wx = .ok (.int .u8 43) wx := hsx
                      obtain ⟨tx, htxe⟩ : ∃ tx, toB r = tx := ⟨_, rfl⟩
                      rw [htxe] at htx htz
                      have HR : Hid (R = ([], j, false)) := tak_put_bad hI.out HY.out (.inl ho) (by omega)
                      clear hI hmk hBx h3
                      go_wp2_with fail
                      go_ret3
                      exact ⟨_, by rw [HR.out]; rfl, hcw, by rw [HR.out]; exact rdv_nil _ _⟩
                    · have q1 : ((c.toNat : Int) != 32) = true := by simpa using byte_ne_int h32 rfl
                      have q2 : ((c.toNat : Int) != 45) = true := by simpa using byte_ne_int h45 rfl
                      have q3 : ((c.toNat : Int) != 43) = true := by simpa using byte_ne_int h43 rfl
                      have q1b := byte_ne_int h32 rfl
                      have q2b := byte_ne_int h45 rfl
                      have q3b := byte_ne_int h43 rfl
                      have HR : Hid (R = ([], j, false)) := tak_sign_bad hI.out HY.out (.inl ho) h32 h45 h43
                      clear hI hmk hBx h3
                      go_wp2_with fail
                      go_ret3
                      exact ⟨_, by rw [HR.out]; rfl, hcw, by rw [HR.out]; exact rdv_nil _ _⟩
            · have tgo : decide ((0 : Int) < (o : Int)) = false := decide_eq_false (by omega)
              have eo : ((o : Int) == 0) = true := by simp; omega
              by_cases hn : 0 < n
              · have tn : decide ((0 : Int) < (n : Int)) = true := decide_eq_true (by omega)
                have en : ((n : Int) == 0) = false := by simp; omega
                rcases Nat.lt_or_ge j L.length with hjlt | hjge
                rotate_left
                · have HR : Hid (R = ([], j, false)) := tak_open hI.out (by rw [HLL.out]; exact hjge) (.inr hn)
                  clear hI hmk hBx h3
                  go_wp2_with fail
                  go_ret3
                  exact ⟨_, by rw [HR.out]; rfl, hcw, by rw [HR.out]; exact rdv_nil _ _⟩
                obtain ⟨y, hy⟩ : ∃ y, L[j]? = some y := ⟨L[j], by simp [hjlt]⟩
                obtain ⟨b', off', hqe, -, -, d0, -⟩ := elems_str h3 hy
                simp only [Option.some.injEq, Addr.mk.injEq, and_true] at hqe
                obtain ⟨rfl, rfl⟩ := hqe
                have d0 := hcw.cellNever d0
                have zy := HZ.out y (List.mem_of_getElem? hy)
                have HY := Lib.hid (linesB_get hy)
                clear hy
                rcases hyl : y.data.toList with _ | ⟨c, r⟩
                · have e1 : ((y.size : Int) == 0) = true := by rw [Lib.size_eq, hyl]; rfl
                  rw [hyl] at HY
                  clear hyl
                  have HR : Hid (R = ([], j, false)) := tak_nil hI.out HY.out (.inr hn)
                  clear hI hmk hBx h3
                  go_wp2_with fail
                  go_ret3
                  exact ⟨_, by rw [HR.out]; rfl, hcw, by rw [HR.out]; exact rdv_nil _ _⟩
                have e1 : ((y.size : Int) == 0) = false := by rw [Lib.size_eq, hyl]; simp; omega
                have hpos : 0 < y.size := by rw [Lib.size_eq, hyl]; simp
                have h1s : (1 : Int) ≤ (y.size : Int) := by omega
                have hc0 : y[0]'hpos = c := by
                  have : y.data.toList[0]? = some (y[0]'hpos) := by rw [Array.getElem?_toList, Array.getElem?_eq_getElem hpos]; rfl
                  rw [hyl] at this
                  injection this with this
                  exact this.symm
                have htx : (y.extract 1 y.size) = toB r := by
                  apply ByteArray.ext
                  apply Array.toList_inj.1
                  rw [Lib.extract_data, hyl, toB_data, List.take_of_length_le (by rw [List.length_drop, Lib.size_eq, hyl]; simp)]
                  rfl
                have htz : (toB r).size ≤ maxLen := by rw [toB_size']; have := Lib.size_eq y; rw [hyl] at this; simp at this; unfold maxLen; omega
                have hsx : ∀ wx, (Instr.index 9 (.string y) (.int .i64 0)).run Tryz.prog wx = .ok (.int .u8 c.toNat) wx := fun wx => by
                  rw [run_index_string _ _ _ _ _ Tryz.underlying9, dif_pos ⟨by omega, by omega⟩]
                  simp only [Int.toNat_zero, hc0]
                rw [hyl] at HY
                clear hyl hc0
                by_cases h32 : c = 32
                · subst c
                  have hsx : ∀ wx, (Instr.index 9 (.string y) (.int .i64 0)).run Tryz.prog wx = .ok (.int .u8 32) wx := hsx
                  obtain ⟨tx, htxe⟩ : ∃ tx, toB r = tx := ⟨_, rfl⟩
                  rw [htxe] at htx htz
                  have HR : Hid (R = ([], j, false)) := tak_keep_bad hI.out HY.out (.inr hn) (.inl (by omega))
                  clear hI hmk hBx h3
                  go_wp2_with fail
                  go_ret3
                  exact ⟨_, by rw [HR.out]; rfl, hcw, by rw [HR.out]; exact rdv_nil _ _⟩
                · by_cases h45 : c = 45
                  · subst c
                    have hsx : ∀ wx, (Instr.index 9 (.string y) (.int .i64 0)).run Tryz.prog wx = .ok (.int .u8 45) wx := hsx
                    obtain ⟨tx, htxe⟩ : ∃ tx, toB r = tx := ⟨_, rfl⟩
                    rw [htxe] at htx htz
                    have HR : Hid (R = ([], j, false)) := tak_take_bad hI.out HY.out (.inr hn) (by omega)
                    clear hI hmk hBx h3
                    go_wp2_with fail
                    go_ret3
                    exact ⟨_, by rw [HR.out]; rfl, hcw, by rw [HR.out]; exact rdv_nil _ _⟩
                  · by_cases h43 : c = 43
                    · subst c
                      have hsx : ∀ wx, (Instr.index 9 (.string y) (.int .i64 0)).run Tryz.prog wx = .ok (.int .u8 43) wx := hsx
                      obtain ⟨tx, htxe⟩ : ∃ tx, toB r = tx := ⟨_, rfl⟩
                      rw [htxe] at htx htz
                      have hI2 := Lib.hid (tak_put hI.out HY.out hn)
                      rw [htxe] at hI2
                      clear htxe
                      have hOm : ∀ q, Old (B + 1) q → q < wi.drew.heap.size := fun q hq => by
                        have e : wi.drew.heap.size = wi.heap.size := rfl
                        rw [e]; unfold Old at hq; omega
                      obtain ⟨f0, f1, f2⟩ := hBx.cell
                      have hB' := hBx.keep (O := Never) (Chg.refl Never wi).drew (fun h => h)
                      have hmk' := hmk.never (Chg.refl Never wi).drew
                      have hc' := hc2.drew
                      clear hI h3
                      go_upto_region 17 with fail
                      clear hBx hmk
                      go_region_law ((refine step_push (by rfl) _ _ 40 (by rfl) elemOk_mark (O := Old (B + 1)) (l := ms) (y := ⟨43, tx⟩) (by rfl) (by rfl) (by simp) hmk' (rd_mark _ _ 43 tx (by decide) (by decide) htz) hOm hml ?_; intro v' w5 hmk5 hc5 hk5; obtain ⟨ad, nn, cc, rfl⟩ := own_slice hk5; have hB5 := hB'.keep hc5 (fun hh => own_out hmk' _ hh (Nat.lt_succ_self _)); obtain ⟨g0, g1, g2⟩ := hB5.cell; have g3 := hB5.free 2))
                      all_goals
                        have hB6 := hB5.set2 (.slice (some ad) nn cc)
                        have hmk6 := hmk5.keep (O' := fun q => q = B) (O'' := Old (B + 1)) ((Chg.refl (fun q => q = B) w5).setCell (p := ⟨B, 2, none⟩) (.inr rfl) (.slice (some ad) nn cc)) (fun q _ hq => by have h : q = B := hq; unfold Old; omega) (fun _ _ hh => hh)
                        have hc6 := (hc'.trans' hc5 (O := fun q => B ≤ q) (fun i hi hh => by have := own_out hmk' i hh; unfold Old at this; omega)).setCell (p := ⟨B, 2, none⟩) (.inr (Nat.le_refl B)) (.slice (some ad) nn cc)
                        clear g0 g1 g2 g3 hB5 hmk5 hc5 hk5 hB' hmk' hc' f0 f1 f2
                        go_wp2_with fail
                        go_roundw
                        case rel => exact ⟨j + 1, o, n - 1, .slice (some ad) nn cc, ms ++ [⟨43, tx⟩], by omega, by omega, by go_num, by go_num, by go_num, hc6, hB6, hmk6, by omega, by rw [Hid, List.length_append]; have := hmj.out; simp; omega, hI2⟩
                        case measure => simp [intOf] <;> omega
                    · have q1 : ((c.toNat : Int) != 32) = true := by simpa using byte_ne_int h32 rfl
                      have q2 : ((c.toNat : Int) != 45) = true := by simpa using byte_ne_int h45 rfl
                      have q3 : ((c.toNat : Int) != 43) = true := by simpa using byte_ne_int h43 rfl
                      have q1b := byte_ne_int h32 rfl
                      have q2b := byte_ne_int h45 rfl
                      have q3b := byte_ne_int h43 rfl
                      have HR : Hid (R = ([], j, false)) := tak_sign_bad hI.out HY.out (.inr hn) h32 h45 h43
                      clear hI hmk hBx h3
                      go_wp2_with fail
                      go_ret3
                      exact ⟨_, by rw [HR.out]; rfl, hcw, by rw [HR.out]; exact rdv_nil _ _⟩
              · have tn : decide ((0 : Int) < (n : Int)) = false := decide_eq_false (by omega)
                obtain rfl : o = 0 := by omega
                obtain rfl : n = 0 := by omega
                obtain ⟨f0, f1, f2⟩ := hBx.cell
                have hownI : Own 42 wi (Old w.heap.size) (.slice va vn vc) hs := hownA.keep (O'' := Old w.heap.size) hc2 (fun g _ hh => .inr hh) (fun _ _ hh => .inl hh)
                have hmr : Rdv wi (fun g => Old w.heap.size g ∨ (Value.slice va vn vc).ownBlock = some g) (.slice ma mn mc) ms := hmk.rdv.sub (fun g _ hh => by
                  unfold Old at *
                  rcases hh with hh | hh
                  · omega
                  · have := hvoB g hh; omega)
                have hy : Dat.rd wi (fun g => Old w.heap.size g ∨ (Value.slice va vn vc).ownBlock = some g) [.int .i64 p, .int .i64 q, .slice ma mn mc] (⟨p, q, ms⟩ : Hunk) := ⟨_, rfl, hmr⟩
                have hhl2 : hs.length ≤ 1000000000 := by have := hhl.out; omega
                clear hBx hmk hownA hmr h3
                go_wp2_with (at_builtin; refine wpList_push (by rfl) _ _ 22 (by rfl) elemOk_hunk (O := Old w.heap.size) (l := hs) (y := (⟨p, q, ms⟩ : Hunk)) (by rfl) (by rfl) (by simp) hownI hy (old_lt hcw) hhl2 ?_; intro v' w5 hown5 hc5 _)
                have hc6 := own_step hcw hownI hc5
                go_wp2_with fail
                go_roundw
                case rel => exact ⟨j, hs ++ [⟨p, q, ms⟩], hjl, rfl, hc6, hown5, by rw [Hid, List.length_append]; have := hhl.out; simp; omega, hI⟩
                case measure => simp [intOf] <;> omega
    · have HR := Lib.hid (tak_done hI.out (by rw [HLL.out]; omega))
      clear hI h3
      go_wp2_with fail
      go_ret3
      exact ⟨_, by rw [HR.out]; rfl, hc, by rw [HR.out]; exact hown.rdv⟩
end Go.Proofs.YtmojaahkcpgfkaaGreatDoor
