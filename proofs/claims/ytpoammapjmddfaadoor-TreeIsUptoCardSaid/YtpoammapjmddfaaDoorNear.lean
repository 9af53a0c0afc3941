/-
  THE WALK of hunk.near.
-/
import Derived.Test.YtpoammapjmddfaaDoorHunkD
import Derived.Test.YtpoammapjmddfaaDoorSpecCut
namespace Go.Proofs.YtpoammapjmddfaaDoor
open Go.RowKit

/-- which marks are near one of the first i -/
def nearTo (s : List Mark) (n : Int) (i k : Nat) : Bool :=
  (List.range i).any fun j => (s[j]?.any isChange) && decide ((k : Int) ≤ j + n) && decide ((j : Int) ≤ k + n) && (k == j || (s[k]?.any fun m => m.sign == 32))
def BoolRow (B : Nat) (wr : World) (len : Nat) (f : Nat → Bool) : Prop :=
  ∃ c : Array Value, wr.heap[B]? = some (.cells c 4 (0, 0)) ∧ c.size = len ∧ ∀ k, k < len → c[k]? = some (.bool (f k))

theorem BoolRow.cell {B : Nat} {wr : World} {len : Nat} {f : Nat → Bool} (h : BoolRow B wr len f) {k : Nat} (hk : k < len) : wr.cell? ⟨B, k, none⟩ = some (.bool (f k)) := by
  obtain ⟨c, h1, h2, h3⟩ := h
  simp only [World.cell?, h1]
  exact h3 k hk
theorem BoolRow.free {B : Nat} {wr : World} {len : Nat} {f : Nat → Bool} (h : BoolRow B wr len f) (k : Nat) : wr.frozen? ⟨B, k, none⟩ = false := by
  obtain ⟨c, h1, h2, h3⟩ := h
  simp [World.frozen?, h1]
theorem BoolRow.keep {B : Nat} {wr w' : World} {len : Nat} {f : Nat → Bool} {O : Nat → Prop} (h : BoolRow B wr len f) (hc : Chg O wr w') (hB : ¬ O B) : BoolRow B w' len f := by
  obtain ⟨c, h1, h2⟩ := h
  refine ⟨c, ?_, h2⟩
  rw [hc.block B (Array.getElem?_eq_some_iff.1 h1).1 hB]
  exact h1
theorem BoolRow.set {B : Nat} {wr : World} {len : Nat} {f : Nat → Bool} (h : BoolRow B wr len f) {k : Nat} (hk : k < len) (b : Bool) {g : Nat → Bool} (hg : ∀ j, j < len → g j = if j = k then b else f j) :
    BoolRow B (wr.setCell ⟨B, k, none⟩ (.bool b)) len g := by
  obtain ⟨c, h1, h2, h3⟩ := h
  refine ⟨c.setIfInBounds k (.bool b), ?_, by simpa using h2, ?_⟩
  · simp [World.setCell, Array.getElem?_modify, h1]
  · intro j hj
    rw [Array.getElem?_setIfInBounds, hg j hj]
    by_cases e : j = k
    · subst e; simp [h2, hj]
    · rw [if_neg (fun h => e h.symm), if_neg e]; exact h3 j hj

def keptAt (s : List Mark) (k : Nat) : Bool := s[k]?.any fun m => m.sign == 32
def inWin (n : Int) (i k : Nat) : Bool := decide ((k : Int) ≤ i + n) && decide ((i : Int) ≤ k + n)
theorem nearTo_succ {s : List Mark} {n : Int} {i k : Nat} {x : Mark} (hx : s[i]? = some x) :
    nearTo s n (i + 1) k = (nearTo s n i k || (isChange x && inWin n i k && (k == i || keptAt s k))) := by
  unfold nearTo inWin keptAt
  rw [List.range_succ, List.any_append]
  simp [hx, Bool.and_assoc]
theorem nearTo_kept {s : List Mark} {n : Int} {i : Nat} {x : Mark} (hx : s[i]? = some x) (h : x.sign = 32) : nearTo s n i = nearTo s n (i + 1) := by
  funext k
  rw [nearTo_succ hx]
  simp [isChange, h]
/-- the row in the midst of mark i: done from lo to c -/
def midRow (s : List Mark) (n : Int) (i : Nat) (c : Int) (k : Nat) : Bool := if (k : Int) < c then nearTo s n (i + 1) k else nearTo s n i k
theorem midRow_start {s : List Mark} {n : Int} {i : Nat} {x : Mark} (hx : s[i]? = some x) (hn : 0 ≤ n) (k : Nat) : midRow s n i (max 0 ((i : Int) - n)) k = nearTo s n i k := by
  unfold midRow
  split
  · rw [nearTo_succ hx]
    have : inWin n i k = false := by
      unfold inWin
      rename_i h
      have : decide ((i : Int) ≤ k + n) = false := by simp; omega
      simp [this]
    simp [this]
  · rfl
theorem midRow_end {s : List Mark} {n : Int} {i : Nat} {x : Mark} {c : Int} (hx : s[i]? = some x) (hc : min ((s.length : Int) - 1) (i + n) < c) {k : Nat} (hk : k < s.length) : midRow s n i c k = nearTo s n (i + 1) k := by
  unfold midRow
  split
  · rfl
  · rw [nearTo_succ hx]
    have : inWin n i k = false := by
      unfold inWin
      rename_i h
      have : decide ((k : Int) ≤ i + n) = false := by simp; omega
      simp [this]
    simp [this]
theorem midRow_step {s : List Mark} {n : Int} {i c : Nat} (j : Nat) : midRow s n i ((c : Int) + 1) j = if j = c then nearTo s n (i + 1) c else midRow s n i c j := by
  unfold midRow
  by_cases h : j = c
  · subst h; simp; omega
  · rw [if_neg h]
    by_cases h1 : (j : Int) < c
    · rw [if_pos h1, if_pos (by omega)]
    · rw [if_neg h1, if_neg (by omega)]
theorem nearTo_inAt {s : List Mark} {n : Int} (hn : 0 ≤ n) {k : Nat} (hk : k < s.length) : nearTo s n s.length k = inAt s n k := by
  rw [Bool.eq_iff_iff]
  unfold nearTo inAt
  rw [List.any_eq_true, List.any_eq_true]
  have hsk : s[k]? = some s[k] := by simp [hk]
  constructor
  · rintro ⟨j, hj, hp⟩
    rw [Bool.and_eq_true] at hp
    exact ⟨j, hj, hp.1⟩
  · rintro ⟨j, hj, hp⟩
    by_cases hc : (s[k]).sign = 32
    · refine ⟨j, hj, ?_⟩
      rw [Bool.and_eq_true]
      exact ⟨hp, by simp [hsk, hc]⟩
    · refine ⟨k, List.mem_range.2 hk, ?_⟩
      simp [hsk, isChange, hc]
      omega

theorem elemOk_bool : ElemOk Tryd.prog 206 4 1 := elemOk_of Tryd.underlying206 (z := .bool false) (b := 1) (by kernel_rfl) rfl (by decide)

theorem boolRow_made {w1 : World} {B len : Nat} (h : w1.ownsRow 0 4 1 (.slice (some ⟨B, 0, none⟩) len len) len (madeCells (Value.bool false).cells (len * 1)).toList) : BoolRow B w1 len fun _ => false := by
  obtain ⟨_, hx⟩ := h
  rcases hx with ⟨h, _⟩ | ⟨g, cap, cur, hv, _, hh, hn, hm, hcs, htake⟩
  · cases h
  · injection hv with hv1 _ hv3
    injection hv1 with hv1
    injection hv1 with hv1
    subst hv1 hv3
    refine ⟨cur, hh, by simpa using hcs, ?_⟩
    intro k hk
    have e : cur.toList[k]? = (cur.toList.take (len * 1))[k]? := by rw [List.getElem?_take, if_pos (by omega)]
    rw [← Array.getElem?_toList, e, htake]
    simp [madeCells, Value.cells, hk, Nat.mod_one]

set_option maxHeartbeats 800000 in
theorem near_any (s : List Mark) (n : Int) (v : Value) (w : World) (h : Rdv w Never v s) (hl : s.length ≤ 120) (hn : 0 ≤ n) (hn' : n ≤ 1000) :
    Calls Tryd.prog 133 #[v, .int .i64 n] w fun e w' => e = .returned (.slice (some ⟨w.heap.size, 0, none⟩) s.length s.length) ∧ Chg Never w w' ∧ BoolRow w.heap.size w' s.length (inAt s n) := by
  obtain ⟨a, cap, rfl, h1, h2, h3⟩ := rdv_slice h
  unfold maxLen at h2
  obtain ⟨ib, ib1, ib2, ib3, ib4⟩ := info_parts (show (Tryd.prog.info? 4).map (fun i => (i.zero, i.size, i.bytes)) = some (some (.bool false), 1, 1) by kernel_rfl)
  go_enter Tryd.func133, Tryd.ntmps133
  go_wp2_with (at_make; refine wpList_make_full _ rfl _ _ 206 rfl 0 4 ib (.bool false) 1 Tryd.underlying206 ib1 ib2 ib3 .i64 .i64 _ _ s.length rfl rfl rfl rfl (by rw [ib4]; omega) (by unfold maxLen; omega) (Nat.zero_le _) ?_; intro w1 hown hgrow)
  have hB := boolRow_made hown
  have hc := (Chg.refl Never w).trans' (Chg.of_grown hgrow) (fun _ _ h => by cases h)
  clear hown hgrow
  go_loopw [8, 14] (fun _ i wr => ∃ k : Nat, k ≤ s.length ∧ i = .int .i64 k ∧ Chg Never w wr ∧ BoolRow w.heap.size wr s.length (nearTo s n k)) (fun _ i _ => s.length - (intOf i).toNat)
  case atStart => exact ⟨0, Nat.zero_le _, rfl, hc, hB⟩
  case round =>
    clear hB hc
    obtain ⟨i, hi, rfl, hc, hB⟩ := hrel
    by_cases hlt : i < s.length
    · obtain ⟨x, hx⟩ : ∃ x, s[i]? = some x := ⟨s[i], by simp [hlt]⟩
      obtain ⟨b, off, rfl, _, _, c0, c1, s0, s1, hxs⟩ := elems_mark h3 hx
      have c0 := hc.cellNever c0
      have c1 := hc.cellNever c1
      have HX := Lib.hid hx
      have hB1 := hB.keep ((Chg.refl Never wr).alloc (.cells #[.int .u8 x.sign, .string x.text] 80)) (fun h => h)
      clear hx
      obtain ⟨sg, tx⟩ := x
      simp only at c0 c1 s0 s1 hxs hB1
      by_cases h32 : sg = 32
      · subst h32
        go_wp2_with (go_at_call 114; refine (changed_any _ _ _).mono ?_; rintro e w2 ⟨rfl, hc2⟩)
        have hB2 := hB1.keep hc2 (fun h => h)
        have hc3 := (hc.alloc _).trans hc2
        go_roundw
        case rel => exact ⟨i + 1, by omega, by go_num, hc3, nearTo_kept HX.out rfl ▸ hB2⟩
        case measure => simp [intOf] <;> omega
      · have t1 : (sg == 32) = false := by simp [h32]
        go_wp2_with (go_at_call 114; refine (changed_any _ _ _).mono ?_; rintro e w2 ⟨rfl, hc2⟩)
        have hB2 := hB1.keep hc2 (fun h => h)
        have hc3 := (hc.alloc _).trans hc2
        have c0' := hc3
        clear hB hB1 hc2 hc
        go_loopw [8] (fun s8 wr' => ∃ c : Int, s8 = .int .i64 c ∧ max 0 ((i : Int) - n) ≤ c ∧ c ≤ max (max 0 ((i : Int) - n)) (min ((s.length : Int) - 1) (i + n) + 1) ∧ Chg Never w wr' ∧ BoolRow w.heap.size wr' s.length (midRow s n i c)) (fun s8 _ => (s.length + 1 - intOf s8).toNat)
        case atStart => exact ⟨_, rfl, Int.le_refl _, by omega, hc3, by have e : midRow s n i (max 0 ((i : Int) - n)) = nearTo s n i := funext (midRow_start HX.out hn); rw [e]; exact hB2⟩
        case round =>
          clear hB2 hc3
          obtain ⟨c, rfl, hlo, hhi, hc, hB⟩ := hrel
          by_cases hcc : c ≤ min ((s.length : Int) - 1) (i + n)
          · obtain ⟨j, rfl⟩ := Int.eq_ofNat_of_zero_le (show 0 ≤ c by omega)
            have hjl : j < s.length := by omega
            have hwin : inWin n i j = true := by unfold inWin; simp; omega
            obtain ⟨y, hy⟩ : ∃ y, s[j]? = some y := ⟨s[j], by simp [hjl]⟩
            obtain ⟨b', off', he, _, _, e0, e1, u0, u1, _⟩ := elems_mark h3 hy
            simp only [Option.some.injEq, Addr.mk.injEq, and_true] at he
            obtain ⟨rfl, rfl⟩ := he
            have e0 := hc.cellNever e0
            have e1 := hc.cellNever e1
            have hnew := nearTo_succ (n := n) (k := j) HX.out
            have hkept : keptAt s j = (y.sign == 32) := by unfold keptAt; rw [hy]; rfl
            rw [hwin, hkept] at hnew
            have d0 := hB.cell hjl
            have d1 := hB.free j
            have hmid : midRow s n i j j = nearTo s n i j := by unfold midRow; simp
            rw [hmid] at d0
            obtain ⟨ys, yt⟩ := y
            simp only at e0 e1 hnew
            have HY := Lib.hid hnew
            have b1 : (j : Int) < s.length := by omega
            clear hnew hkept hmid hy hwin
            cases hnr : nearTo s n i j with
            | true =>
              rw [hnr] at d0
              have HN := Lib.hid hnr
              clear hnr
              go_wp2_with fail
              go_roundw
              case rel => exact ⟨(j : Int) + 1, rfl, by omega, by omega, hc.setCell (.inl (Nat.le_refl _)) _, hB.set hjl _ (fun k hk => by rw [midRow_step, HY.out, HN.out]; simp)⟩
              case measure => simp [intOf] <;> omega
            | false =>
              rw [hnr] at d0
              have HN := Lib.hid hnr
              clear hnr
              by_cases hji : j = i
              · have t2 : ((j : Int) == i) = true := by simp [hji]
                have HJ := Lib.hid hji
                clear hji
                go_wp2_with fail
                go_roundw
                case rel => exact ⟨(j : Int) + 1, rfl, by omega, by omega, hc.setCell (.inl (Nat.le_refl _)) _, hB.set hjl _ (fun k hk => by rw [midRow_step, HY.out, HN.out]; simp [isChange, t1, HJ.out])⟩
                case measure => simp [intOf] <;> omega
              · have t2 : ((j : Int) == i) = false := by simp; omega
                go_wp2_with fail
                refine (kept_any _ _ _).mono ?_
                rintro e w5 ⟨rfl, hc5⟩
                have hB5 := hB.keep hc5 (fun h => h)
                have hc6 := hc.trans hc5
                have d1 := hB5.free j
                have d0 := hB5.cell hjl
                clear hB hc5 hc
                go_wp2_with fail
                go_roundw
                case rel => exact ⟨(j : Int) + 1, rfl, by omega, by omega, hc6.setCell (.inl (Nat.le_refl _)) _, hB5.set hjl _ (fun k hk => by rw [midRow_step, HY.out, HN.out]; simp [isChange, t1, beq_eq_false_iff_ne.2 hji])⟩
                case measure => simp [intOf] <;> omega
          · go_wp2_with fail
            go_roundw
            case rel => exact ⟨i + 1, by omega, by go_num, hc, by
              obtain ⟨cc, q1, q2, q3⟩ := hB
              exact ⟨cc, q1, q2, fun k hk => by rw [q3 k hk, midRow_end HX.out (by omega) hk]⟩⟩
            case measure => simp [intOf] <;> omega
    · go_wp2_with fail
      go_ret
      obtain rfl : i = s.length := by omega
      refine ⟨rfl, hc, ?_⟩
      obtain ⟨c, q1, q2, q3⟩ := hB
      exact ⟨c, q1, q2, fun k hk => by rw [q3 k hk, nearTo_inAt hn hk]⟩
end Go.Proofs.YtpoammapjmddfaaDoor
