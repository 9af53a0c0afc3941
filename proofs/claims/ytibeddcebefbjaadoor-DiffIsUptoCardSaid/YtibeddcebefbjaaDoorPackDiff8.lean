/-
  PARTS: THE WALKS of the document's FarOf, ScriptOf.; PIECES OF A SCRIPT AS THE DOCUMENT FINDS THEM, in plain Lean: is a mark in a piece, told mark by mark.; THE WALK of the document's CutOf.; THE WALK of the document's DiffOf.
-/
import Derived.Test.YtibeddcebefbjaaDoorPackDiff7
import Derived.Test.YtibeddcebefbjaaDoorPackDiff3
import Derived.Test.YtibeddcebefbjaaDoorPackDiff2
import Derived.Test.YtibeddcebefbjaaDoorPackDiff4
import Derived.Test.YtibeddcebefbjaaDoorPackDiff5
import Derived.Deep.RegionHeld3
import Derived.Test.YtibeddcebefbjaaDoorPackDiff6
namespace Go.Proofs.YtibeddcebefbjaaDoor
open Go.RowKit

theorem Tab.cells {T : Nat} {wr : World} {a b : List ByteArray} {Rf : Nat → Nat} {lo : Nat} (h : Tab T wr a b Rf lo) {i k : Nat} (hi : lo ≤ i) (hi' : i ≤ a.length) (hk : k ≤ b.length) :
    wr.cell? ⟨T, i, none⟩ = some (slI (Rf i) (b.length + 1)) ∧ wr.cell? ⟨Rf i, k, none⟩ = some (.int .i64 (lcsAt a b i k)) := by
  obtain ⟨g, h1, h2⟩ := h
  obtain ⟨q1, q2, q3⟩ := h2 i hi hi'
  exact ⟨by rw [h1.cell (by omega), q2], q3.cell (by omega)⟩
theorem farOf_eq (a b : List ByteArray) : (a.length : Int) + b.length - 2 * (lcsAt a b 0 0 : Nat) = far a b := by
  have := far_lcs' a b
  unfold lcsAt
  simp only [List.drop_zero]
  omega

set_option maxHeartbeats 2000000 in
set_option maxRecDepth 100000 in
theorem scriptOf_any (a b : List ByteArray) (va vb : Value) (w : World) (ha : Rdv w Never va a) (hb : Rdv w Never vb b) (hla : a.length ≤ 60) (hlb : b.length ≤ 60) :
    Calls Tryd.prog 50 #[va, vb] w fun e w' => ∃ r, e = .returned r ∧ Chg Never w w' ∧ Rdv w' (Old w.heap.size) r (script a b) := by
  obtain ⟨aa, acap, rfl, h1, h2, h3⟩ := rdv_slice ha
  obtain ⟨ba, bcap, rfl, g1, g2, g3⟩ := rdv_slice hb
  unfold maxLen at h2 g2
  go_enter Tryd.func50, Tryd.ntmps50
  go_wp2_with fail
  refine (common_any a b _ _ _ ha hb hla hlb).mono ?_
  rintro e w1 ⟨rfl, hw1, Rf, hT⟩
  generalize w.heap.size = T at hT ⊢
  go_wp2_with fail
  go_loopw [6, 7, 8] (fun o s7 s8 wr => ∃ (i k : Nat) (pre : List Mark), i ≤ a.length ∧ k ≤ b.length ∧ s7 = .int .i64 i ∧ s8 = .int .i64 k ∧ Chg Never w1 wr ∧
      Own 66 wr (Old w1.heap.size) o pre ∧ Hid (pre.length ≤ i + k) ∧ Hid (pre ++ script (a.drop i) (b.drop k) = script a b)) (fun _ s7 s8 _ => (a.length - (intOf s7).toNat) + (b.length - (intOf s8).toNat))
  case atStart => exact ⟨0, 0, [], Nat.zero_le _, Nat.zero_le _, rfl, rfl, Chg.refl _ _, own_nil _ _ _, Nat.zero_le _, by simp [Hid]⟩
  case round =>
    obtain ⟨i, k, pre, hi, hk, rfl, rfl, hc, hown, hpl0, hpre⟩ := hrel
    have hpl : pre.length ≤ 120 := by have := hpl0.out; omega
    by_cases hil : i < a.length
    · obtain ⟨s, hs⟩ : ∃ s, a[i]? = some s := ⟨a[i], by simp [hil]⟩
      obtain ⟨p, off, rfl, _, hbl, hcx0, hxs⟩ := elems_str h3 hs
      have hcx0 := hw1.cellNever hcx0
      have hcx := hc.cellNever hcx0
      have HS := Lib.hid hs
      have b1 : (i : Int) < a.length := by omega
      obtain ⟨D1, D2⟩ := hT.cells (i := i) (k := k) (Nat.zero_le _) hi hk
      obtain ⟨D3, D4⟩ := hT.cells (i := i + 1) (k := k) (Nat.zero_le _) hil hk
      have d1 := hc.cellNever D1
      have d2 := hc.cellNever D2
      have d3 := hc.cellNever D3
      have d4 := hc.cellNever D4
      have u1 := lcsAt_le a b i k
      have u2 := lcsAt_le a b (i + 1) k
      have e1 : IntKind.i64.wrap ((i : Int) + 1) = (i : Int) + 1 := IntWalk.i64_in _ (by omega)
      have e2 : IntKind.i64.wrap ((k : Int) + 1) = (k : Int) + 1 := IntWalk.i64_in _ (by omega)
      have e3 : (0 : Int) ≤ (i : Int) + 1 := by omega
      have e4 : (0 : Int) ≤ (k : Int) + 1 := by omega
      have e5 : (i : Int) + 1 < (a.length : Int) + 1 := by omega
      have e6 : (k : Int) < (b.length : Int) + 1 := by omega
      have e7 : ((i : Int) + 1).toNat = i + 1 := by omega
      have e8 : ((k : Int) + 1).toNat = k + 1 := by omega
      have e9 : (i : Int) < (a.length : Int) + 1 := by omega
      by_cases hkm : k < b.length
      · obtain ⟨t, ht⟩ : ∃ t, b[k]? = some t := ⟨b[k], by simp [hkm]⟩
        obtain ⟨p', off', rfl, _, hbl', hcy0, hys⟩ := elems_str g3 ht
        have hcy0 := hw1.cellNever hcy0
        have hcy := hc.cellNever hcy0
        have HT := Lib.hid ht
        have b2 : (k : Int) < b.length := by omega
        obtain ⟨_, D5⟩ := hT.cells (i := i + 1) (k := k + 1) (Nat.zero_le _) hil hkm
        have d5 := hc.cellNever D5
        have u3 := lcsAt_le a b (i + 1) (k + 1)
        have e11 : IntKind.i64.wrap (((lcsAt a b (i + 1) (k + 1) : Nat) : Int) + 1) = ((lcsAt a b (i + 1) (k + 1) : Nat) : Int) + 1 := IntWalk.i64_in _ (by omega)
        have e12 : (k : Int) + 1 < (b.length : Int) + 1 := by omega
        clear h3 g3 ha hb hs ht
        by_cases hst : s = t
        · subst hst
          have t0 : lcsAt a b i k = lcsAt a b (i + 1) (k + 1) + 1 := by
            unfold lcsAt
            rw [drop_cons HS.out, drop_cons HT.out, lcs_same]
          have t1 : (((lcsAt a b (i + 1) (k + 1) : Nat) : Int) + 1 == ((lcsAt a b i k : Nat) : Int)) = true := by rw [beq_iff_eq]; omega
          clear t0
          go_wp2_with fail
          go_quiet (fail)
          clear d1 d2 d3 d4 d5 e11 e12 hcx hcy D1 D2 D3 D4 D5
          clear e1 e2 e3 e4 e5 e6 e7 e8 e9
          generalize hw2 : World.drewN wr _ = wr2
          have hc : Chg Never w1 wr2 := hw2 ▸ hc.drewN _
          have hown : Own 66 wr2 (Old w1.heap.size) _ pre := hw2 ▸ hown.never ((Chg.refl _ wr).drewN _)
          clear hw2
          have hcx := hc.cellNever hcx0
          go_wp2_with (at_builtin; refine wpList_push rfl _ _ 22 rfl elemOk_mark (O := Old w1.heap.size) (l := pre) (y := ⟨32, s⟩) rfl rfl rfl hown (rd_mark _ _ 32 s (by decide) (by decide) (by assumption)) (old_lt hc) (by omega) ?_; intro v' w5 hown2 hc2 _)
          have hc3 := own_step hc hown hc2
          clear hc2 hc hown
          go_wp2_with fail
          go_roundw
          case rel => exact ⟨i + 1, k + 1, _, by omega, by omega, by go_num, by go_num, hc3, hown2, by have := hpl0.out; show (pre ++ [_]).length ≤ _; simp; omega, by have := hpre.out; rw [script_keep HS.out HT.out] at this; rw [Hid, ← this]; simp⟩
          case measure => simp [intOf] <;> omega
        · have hne := str_beq_false hst
          have HST := Lib.hid hst
          have htest := lcs_test s t (a.drop (i + 1)) (b.drop (k + 1))
          rw [← drop_cons HS.out, ← drop_cons HT.out] at htest
          clear hst
          by_cases htk : far (a.drop (i + 1)) (b.drop k) + 1 = far (a.drop i) (b.drop k)
          · have t0 : lcsAt a b (i + 1) k = lcsAt a b i k := htest.2 htk
            have t1 : (((lcsAt a b (i + 1) k : Nat) : Int) == ((lcsAt a b i k : Nat) : Int)) = true := by rw [beq_iff_eq]; omega
            have HTK := Lib.hid htk
            clear htk htest t0
            go_wp2_with fail
            go_quiet (fail)
            clear d1 d2 d3 d4 d5 hcx hcy D5
            generalize hw2 : World.drewN wr _ = wr2
            have hc : Chg Never w1 wr2 := hw2 ▸ hc.drewN _
            have hown : Own 66 wr2 (Old w1.heap.size) _ pre := hw2 ▸ hown.never ((Chg.refl _ wr).drewN _)
            clear hw2
            have hcx := hc.cellNever hcx0
            have d1 := hc.cellNever D1
            have d2 := hc.cellNever D2
            have d3 := hc.cellNever D3
            have d4 := hc.cellNever D4
            go_wp2_with fail
            go_quiet (fail)
            clear d1 d2 d3 d4 hcx D1 D2 D3 D4 e11 e12
            clear e1 e2 e3 e4 e5 e6 e7 e8 e9
            generalize hw2 : World.drewN wr2 _ = wr3
            have hc : Chg Never w1 wr3 := hw2 ▸ hc.drewN _
            have hown : Own 66 wr3 (Old w1.heap.size) _ pre := hw2 ▸ hown.never ((Chg.refl _ wr2).drewN _)
            clear hw2
            have hcx := hc.cellNever hcx0
            go_wp2_with (at_builtin; refine wpList_push rfl _ _ 22 rfl elemOk_mark (O := Old w1.heap.size) (l := pre) (y := ⟨45, s⟩) rfl rfl rfl hown (rd_mark _ _ 45 s (by decide) (by decide) (by assumption)) (old_lt hc) (by omega) ?_; intro v' w5 hown2 hc2 _)
            have hc3 := own_step hc hown hc2
            clear hc2 hc hown
            go_wp2_with fail
            go_roundw
            case rel => exact ⟨i + 1, k, _, by omega, by omega, by go_num, by go_num, hc3, hown2, by have := hpl0.out; show (pre ++ [_]).length ≤ _; simp; omega, by have := hpre.out; rw [script_take HS.out (fun y hy => by rw [HT.out] at hy; injection hy with hy; subst hy; exact HST.out) HTK.out] at this; rw [Hid, ← this]; simp⟩
            case measure => simp [intOf] <;> omega
          · have t0 : lcsAt a b (i + 1) k ≠ lcsAt a b i k := fun e => htk (htest.1 e)
            have t1 : (((lcsAt a b (i + 1) k : Nat) : Int) == ((lcsAt a b i k : Nat) : Int)) = false := by rw [beq_eq_false_iff_ne]; omega
            have HTK := Lib.hid htk
            clear htk htest t0
            go_wp2_with fail
            go_quiet (fail)
            clear d1 d2 d3 d4 d5 hcx hcy D5
            generalize hw2 : World.drewN wr _ = wr2
            have hc : Chg Never w1 wr2 := hw2 ▸ hc.drewN _
            have hown : Own 66 wr2 (Old w1.heap.size) _ pre := hw2 ▸ hown.never ((Chg.refl _ wr).drewN _)
            clear hw2
            have hcy := hc.cellNever hcy0
            have d1 := hc.cellNever D1
            have d2 := hc.cellNever D2
            have d3 := hc.cellNever D3
            have d4 := hc.cellNever D4
            go_wp2_with fail
            go_quiet (fail)
            clear d1 d2 d3 d4 hcy D1 D2 D3 D4 e11 e12
            clear e1 e2 e3 e4 e5 e6 e7 e8 e9
            generalize hw2 : World.drewN wr2 _ = wr3
            have hc : Chg Never w1 wr3 := hw2 ▸ hc.drewN _
            have hown : Own 66 wr3 (Old w1.heap.size) _ pre := hw2 ▸ hown.never ((Chg.refl _ wr2).drewN _)
            clear hw2
            have hcy := hc.cellNever hcy0
            go_wp2_with (at_builtin; refine wpList_push rfl _ _ 22 rfl elemOk_mark (O := Old w1.heap.size) (l := pre) (y := ⟨43, t⟩) rfl rfl rfl hown (rd_mark _ _ 43 t (by decide) (by decide) (by assumption)) (old_lt hc) (by omega) ?_; intro v' w5 hown2 hc2 _)
            have hc3 := own_step hc hown hc2
            clear hc2 hc hown
            go_wp2_with fail
            go_roundw
            case rel => exact ⟨i, k + 1, _, by omega, by omega, by go_num, by go_num, hc3, hown2, by have := hpl0.out; show (pre ++ [_]).length ≤ _; simp; omega, by have := hpre.out; rw [script_put HT.out (fun x hx => by rw [HS.out] at hx; injection hx with hx; subst hx; exact ⟨HST.out, HTK.out⟩)] at this; rw [Hid, ← this]; simp⟩
            case measure => simp [intOf] <;> omega
      · obtain rfl : k = b.length := by omega
        have g2' : decide ((b.length : Int) < b.length) = false := by simp
        have htk : far (a.drop (i + 1)) [] + 1 = far (a.drop i) [] := by
          rw [far_nil', far_nil', List.length_drop, List.length_drop]; omega
        rw [lcsAt_right] at d2 d4 D2 D4
        have HTK := Lib.hid htk
        clear htk hs h3 g3 ha hb
        go_wp2_with fail
        go_quiet (fail)
        clear d1 d2 d3 d4 hcx
        generalize hw2 : World.drewN wr _ = wr2
        have hc : Chg Never w1 wr2 := hw2 ▸ hc.drewN _
        have hown : Own 66 wr2 (Old w1.heap.size) _ pre := hw2 ▸ hown.never ((Chg.refl _ wr).drewN _)
        clear hw2
        have hcx := hc.cellNever hcx0
        have d1 := hc.cellNever D1
        have d2 := hc.cellNever D2
        have d3 := hc.cellNever D3
        have d4 := hc.cellNever D4
        go_wp2_with fail
        go_quiet (fail)
        clear d1 d2 d3 d4 hcx D1 D2 D3 D4
        clear e1 e2 e3 e4 e5 e6 e7 e8 e9
        generalize hw2 : World.drewN wr2 _ = wr3
        have hc : Chg Never w1 wr3 := hw2 ▸ hc.drewN _
        have hown : Own 66 wr3 (Old w1.heap.size) _ pre := hw2 ▸ hown.never ((Chg.refl _ wr2).drewN _)
        clear hw2
        have hcx := hc.cellNever hcx0
        go_wp2_with (at_builtin; refine wpList_push rfl _ _ 22 rfl elemOk_mark (O := Old w1.heap.size) (l := pre) (y := ⟨45, s⟩) rfl rfl rfl hown (rd_mark _ _ 45 s (by decide) (by decide) (by assumption)) (old_lt hc) (by omega) ?_; intro v' w5 hown2 hc2 _)
        have hc3 := own_step hc hown hc2
        clear hc2 hc hown
        go_wp2_with fail
        go_roundw
        case rel => exact ⟨i + 1, b.length, _, by omega, by omega, by go_num, by go_num, hc3, hown2, by have := hpl0.out; show (pre ++ [_]).length ≤ _; simp; omega, by have := hpre.out; rw [script_take HS.out (fun y hy => by simp at hy) (by rw [List.drop_length]; exact HTK.out)] at this; rw [Hid, ← this]; simp⟩
        case measure => simp [intOf] <;> omega
    · obtain rfl : i = a.length := by omega
      have g1' : decide ((a.length : Int) < a.length) = false := by simp
      by_cases hkm : k < b.length
      · obtain ⟨t, ht⟩ : ∃ t, b[k]? = some t := ⟨b[k], by simp [hkm]⟩
        obtain ⟨p', off', rfl, _, hbl', hcy0, hys⟩ := elems_str g3 ht
        have hcy0 := hw1.cellNever hcy0
        have HT := Lib.hid ht
        have b2 : (k : Int) < b.length := by omega
        clear h3 g3 ha hb ht
        go_wp2_with fail
        go_quiet (fail)
        generalize hw2 : World.drewN wr _ = wr2
        have hc : Chg Never w1 wr2 := hw2 ▸ hc.drewN _
        have hown : Own 66 wr2 (Old w1.heap.size) _ pre := hw2 ▸ hown.never ((Chg.refl _ wr).drewN _)
        clear hw2
        go_wp2_with fail
        go_quiet (fail)
        generalize hw2 : World.drewN wr2 _ = wr3
        have hc : Chg Never w1 wr3 := hw2 ▸ hc.drewN _
        have hown : Own 66 wr3 (Old w1.heap.size) _ pre := hw2 ▸ hown.never ((Chg.refl _ wr2).drewN _)
        clear hw2
        have hcy := hc.cellNever hcy0
        go_wp2_with (at_builtin; refine wpList_push rfl _ _ 22 rfl elemOk_mark (O := Old w1.heap.size) (l := pre) (y := ⟨43, t⟩) rfl rfl rfl hown (rd_mark _ _ 43 t (by decide) (by decide) (by assumption)) (old_lt hc) (by omega) ?_; intro v' w5 hown2 hc2 _)
        have hc3 := own_step hc hown hc2
        clear hc2 hc hown
        go_wp2_with fail
        go_roundw
        case rel => exact ⟨a.length, k + 1, _, by omega, by omega, by go_num, by go_num, hc3, hown2, by have := hpl0.out; show (pre ++ [_]).length ≤ _; simp; omega, by have := hpre.out; rw [script_put HT.out (fun x hx => by simp at hx)] at this; rw [Hid, ← this]; simp⟩
        case measure => simp [intOf] <;> omega
      · obtain rfl : k = b.length := by omega
        go_wp2_with fail
        go_ret
        have E : pre = script a b := by have := hpre.out; rw [List.drop_length, List.drop_length, script, List.append_nil] at this; exact this
        exact ⟨_, rfl, hw1.trans hc, E ▸ hown.rdv.sub (fun k _ hk => by have := hw1.size; unfold Old at *; omega)⟩
end Go.Proofs.YtibeddcebefbjaaDoor
namespace Go.Proofs.YtibeddcebefbjaaDoor

/-- is mark k in a piece, as far as j marks tell? -/
def inTo (s : List Mark) (n : Int) (k j : Nat) : Bool := (s[k]?.any isChange) || (List.range j).any fun i => (s[i]?.any isChange) && decide ((k : Int) ≤ i + n) && decide ((i : Int) ≤ k + n)
theorem inTo_zero {s : List Mark} {n : Int} {k : Nat} {x : Mark} (hx : s[k]? = some x) : inTo s n k 0 = isChange x := by
  unfold inTo; simp [hx]
theorem inTo_step {s : List Mark} {n : Int} {k j : Nat} {y : Mark} (hy : s[j]? = some y) : inTo s n k (j + 1) = (inTo s n k j || (isChange y && decide ((k : Int) ≤ j + n) && decide ((j : Int) ≤ k + n))) := by
  unfold inTo
  rw [List.range_succ, List.any_append]
  simp [hy, Bool.or_assoc]
theorem inTo_in {s : List Mark} {n : Int} {k j : Nat} {y : Mark} (hy : s[j]? = some y) (h1 : y.sign ≠ 32) (h2 : (j : Int) - k ≤ n) (h3 : (k : Int) - j ≤ n) : inTo s n k (j + 1) = true := by
  rw [inTo_step hy]
  have e1 : isChange y = true := by simp [isChange, h1]
  rw [e1, decide_eq_true (show (k : Int) ≤ j + n by omega), decide_eq_true (show (j : Int) ≤ k + n by omega)]
  simp
theorem inTo_out {s : List Mark} {n : Int} {k j : Nat} {y : Mark} (hy : s[j]? = some y) (h : y.sign = 32 ∨ ¬ (j : Int) - k ≤ n ∨ ¬ (k : Int) - j ≤ n) : inTo s n k (j + 1) = inTo s n k j := by
  rw [inTo_step hy]
  have : (isChange y && decide ((k : Int) ≤ j + n) && decide ((j : Int) ≤ k + n)) = false := by
    rcases h with h | h | h
    · have e1 : isChange y = false := by simp [isChange, h]
      rw [e1]; rfl
    · rw [decide_eq_false (show ¬ (j : Int) ≤ k + n by omega)]; simp
    · rw [decide_eq_false (show ¬ (k : Int) ≤ j + n by omega)]; simp
  rw [this, Bool.or_false]
theorem inTo_end {s : List Mark} {n : Int} {k : Nat} (hn : 0 ≤ n) (hk : k < s.length) : inTo s n k s.length = inAt s n k := by
  unfold inTo inAt
  cases hc : s[k]?.any isChange with
  | false => rfl
  | true =>
    rw [Bool.true_or]
    symm
    rw [List.any_eq_true]
    exact ⟨k, List.mem_range.2 hk, by rw [hc, decide_eq_true (show (k : Int) ≤ k + n by omega)]; rfl⟩
end Go.Proofs.YtibeddcebefbjaaDoor
namespace Go.Proofs.YtibeddcebefbjaaDoor
open Go.RowKit

/-- 'append(v, h)' of a hunk without marks, at a step of a region that draws -/
theorem step_push_last {P : Program} {ops : Array Oper} {o : Oper} {a : Act} {K : Act → World → Prop} {Q : Exit → Act → World → Prop} {E : Prop} (hgd : o.guard = none) (s x : Operand) (t : TypeId)
    (ho : o.op = .call { callee := .builtin .append, args := #[s, x], argTypes := #[t, t] }) {e : TypeId} (em : TypeId) (hP : ElemOk P t e 3) {w0 : World} {O : Nat → Prop} {v : Value} {l : List Hunk} {old new : Int} {E' : TypeId} {B : Nat}
    (hs : a.eval s = v) (hx : a.eval x = .slice (some ⟨B, 0, none⟩) 1 1) (hB : B = w0.heap.size)
    (hown : Own e w0 O v l) (hO : ∀ k, O k → k < w0.heap.size) (hlen : l.length ≤ 1000000000)
    (h : ∀ v' w' xs, OwnLast e em w' O v' l ⟨old, new, []⟩ (.slice none 0 0) xs → Chg (OwnB v) w0 w' → K (a.put o.dst v') w') :
    if Region.wanted o (yielded ops a.tmps) = true then Oper.wp P o a (w0.alloc (.cells #[.int .i64 old, .int .i64 new, .slice none 0 0] E')) K Q else E := by
  have hw : Region.wanted o (yielded ops a.tmps) = true := by simp [Region.wanted, hgd]
  rw [if_pos hw]
  subst hB
  obtain ⟨v', w', hrun, ⟨xs, h1⟩, h2⟩ := run_push_last (ty := o.type) (em := em) (o := old) (n := new) hP E' hown hO hlen
  unfold Oper.wp execOp
  simp only [ho, resolve, invoke, builtin, Sem.run_bind, Sem.run_pure, Result.andThen_ok, List.map_toArray, List.map_cons, List.map_nil, hs, hx, hrun]
  exact h v' w' xs h1 h2
theorem setCell_same {w : World} {p : Addr} {v : Value} (h : w.cell? p = some v) : w.setCell p v = w := by
  have e : (w.setCell p v).heap = w.heap := by
    unfold World.setCell World.cell? at *
    apply Array.ext_getElem?
    intro i
    simp only [Array.getElem?_modify]
    by_cases hi : p.block = i
    · subst hi
      rw [if_pos rfl]
      cases hb : w.heap[p.block]? with
      | none => rfl
      | some ob =>
        rw [hb] at h
        cases ob with
        | cells c e f =>
          simp only at h
          by_cases hs : p.spot.isSome = true
          · rw [if_pos hs] at h; cases h
          · rw [if_neg hs] at h
            simp only [Option.map_some, hs]
            congr 2
            apply Array.ext_getElem?
            intro j
            simp only [Bool.false_eq_true, if_false]
            rw [Array.getElem?_setIfInBounds]
            by_cases hj : p.off = j
            · subst hj
              rw [if_pos rfl]
              split
              · exact h.symm
              · rw [Array.getElem?_eq_none (by omega)]
            · rw [if_neg hj]
        | _ => rfl
    · rw [if_neg hi]
  have : w.setCell p v = { w with heap := (w.setCell p v).heap } := rfl
  rw [this, e]
set_option maxHeartbeats 4000000 in
set_option maxRecDepth 100000 in
theorem refCut_any (s : List Mark) (n : Int) (v : Value) (w : World) (h : Rdv w Never v s) (hz : scriptFault s = 0) (hn : 0 ≤ n) (hn' : n ≤ 1000) :
    Calls Tryd.prog 49 #[v, .int .i64 n] w fun e w' => ∃ r, e = .returned r ∧ Chg Never w w' ∧ Rdv w' (Old w.heap.size) r (cutOf s n) := by
  have hl := scriptFault_len hz
  have HZ := Lib.hid hz
  clear hz
  obtain ⟨a, cap, rfl, h1, h2, h3⟩ := rdv_slice h
  unfold maxLen at h2
  go_enter Tryd.func49, Tryd.ntmps49
  go_wp2_with fail
  go_loopw [5, 6, 7] (fun o wa i wr => ∃ k : Nat, k ≤ s.length ∧ i = .int .i64 k ∧ wa = .bool (wasIn s n k) ∧ Chg Never w wr ∧ CutOwn wr (Old w.heap.size) o (cutTo s n k) (wasIn s n k)) (fun _ _ i _ => s.length - (intOf i).toNat)
  case atStart => exact ⟨0, Nat.zero_le _, rfl, rfl, Chg.refl _ _, own_nil _ _ _⟩
  case round =>
    obtain ⟨k, hk, rfl, rfl, hc, hown⟩ := hrel
    by_cases hlt : k < s.length
    · obtain ⟨x, hx⟩ : ∃ x, s[k]? = some x := ⟨s[k], by simp [hlt]⟩
      obtain ⟨b, off, rfl, _, _, c0, c1, s0, s1, hxs⟩ := elems_mark h3 hx
      have C0 := Lib.hid c0
      have C1 := Lib.hid c1
      have c0 := hc.cellNever c0
      have c1 := hc.cellNever c1
      have hlen := cutTo_len (s := s) hn k hk
      have HX := Lib.hid hx
      have h0 := inTo_zero (n := n) hx
      obtain ⟨sg, tx⟩ := x
      simp only at C0 C1 c0 c1 s0 s1 hxs
      have H0 := Lib.hid h0
      clear hx h0
      go_wp2_with fail
      go_loop [8, 9] (fun inn kk => ∃ j : Nat, j ≤ s.length ∧ kk = .int .i64 j ∧ inn = .bool (inTo s n k j)) (fun _ kk => s.length - (intOf kk).toNat)
      case atStart => exact ⟨0, Nat.zero_le _, rfl, by rw [H0.out]; rfl⟩
      case round =>
        obtain ⟨j, hj, rfl, rfl⟩ := hrel
        by_cases hjl : j < s.length
        · obtain ⟨y, hy⟩ : ∃ y, s[j]? = some y := ⟨s[j], by simp [hjl]⟩
          obtain ⟨b', off', hbo, _, _, g0, g1, _, _, _⟩ := elems_mark h3 hy
          simp only [Option.some.injEq, Addr.mk.injEq, and_true] at hbo
          obtain ⟨rfl, rfl⟩ := hbo
          have g0 := hc.cellNever g0
          have HY := Lib.hid hy
          clear hy g1
          by_cases p1 : y.sign = 32
          · have t1 : (y.sign != 32) = false := by simp [p1]
            have HE := Lib.hid (inTo_out (n := n) (k := k) HY.out (.inl p1))
            go_wp2_with fail
            go_round
            case rel => exact ⟨j + 1, by omega, by go_num, by rw [HE.out]⟩
            case measure => simp [intOf] <;> omega
          · have t1 : (y.sign != 32) = true := by simp [p1]
            by_cases p2 : (j : Int) - k ≤ n
            · by_cases p3 : (k : Int) - j ≤ n
              · have HE := Lib.hid (inTo_in (n := n) (k := k) HY.out p1 p2 p3)
                go_wp2_with fail
                go_round
                case rel => exact ⟨j + 1, by omega, by go_num, by rw [HE.out]⟩
                case measure => simp [intOf] <;> omega
              · have HE := Lib.hid (inTo_out (n := n) (k := k) HY.out (.inr (.inr p3)))
                go_wp2_with fail
                go_round
                case rel => exact ⟨j + 1, by omega, by go_num, by rw [HE.out]⟩
                case measure => simp [intOf] <;> omega
            · have HE := Lib.hid (inTo_out (n := n) (k := k) HY.out (.inr (.inl p2)))
              go_wp2_with fail
              go_round
              case rel => exact ⟨j + 1, by omega, by go_num, by rw [HE.out]⟩
              case measure => simp [intOf] <;> omega
        · obtain rfl : j = s.length := by omega
          rw [inTo_end hn hlt]
          cases hin : inAt s n k with
          | false =>
            have HF := Lib.hid (cutTo_out HX.out hin)
            have HIN := Lib.hid hin
            have hown := hown.own
            clear hin
            go_wp2_with fail
            go_roundw
            case rel => exact ⟨k + 1, by omega, by go_num, by rw [wasIn_succ, HIN.out], hc, by rw [wasIn_succ, HIN.out, CutOwn, if_neg (by decide), HF.out]; exact hown⟩
            case measure => simp [intOf] <;> omega
          | true =>
            have HIN := Lib.hid hin
            cases hwas : wasIn s n k with
            | true =>
              have hown' := hown
              unfold CutOwn at hown'
              rw [if_pos hwas] at hown'
              obtain ⟨init, q, mv, xs, HE, hlast⟩ := hown'
              have HEE := Lib.hid HE
              obtain ⟨g, gcap, rfl, hg1, hg2, hg3, hg4, m2, m0, m1, hfr⟩ := hlast.shape
              have hil : init.length ≤ 120 := by
                rw [HE, List.length_append] at hlen
                simp at hlen
                omega
              have hlm : q.marks.length ≤ 1000000000 := by
                have := cut_marks hn hk hwas HE
                omega
              have HF := Lib.hid (cutTo_more HX.out hin hwas HE)
              have z1 : (init.length : Int) + 1 - 1 = init.length := by omega
              have HW := Lib.hid hwas
              clear HE hin hwas hown hlen
              obtain ⟨ma, mn, mc, rfl⟩ := own_isSlice hlast.marks
              have hBX := Blk3.new wr 24 (.int .i64 q.old) (.int .i64 q.new) (.slice ma mn mc)
              have hAX : Chg Never wr (wr.alloc (.cells #[.int .i64 q.old, .int .i64 q.new, .slice ma mn mc] 24)) := (Chg.refl Never wr).alloc _
              have hgge : w.heap.size ≤ g := by unfold Old at hg2; omega
              have hBw : w.heap.size ≤ wr.heap.size := hc.size
              have hgl : g < wr.heap.size := (hlast.row.lt g rfl).2
              have hown4 := hlast.marks.keep (O'' := fun j => (Old w.heap.size j ∨ (Value.slice (some ⟨g, 0, none⟩) (init.length + 1) gcap).ownBlock = some j) ∨ j = wr.heap.size) hAX.drew (fun _ _ hh => hh.elim) (by rintro j hj (hh | rfl); exact hh; exact absurd hj (Nat.lt_irrefl _))
              have hgM : ¬ OwnB (.slice ma mn mc) g := by
                obtain ⟨_, _, qq, _⟩ := hown4
                exact fun hh => qq g hh (.inl (.inr rfl))
              have hBM : ¬ OwnB (.slice ma mn mc) wr.heap.size := by
                obtain ⟨_, _, qq, _⟩ := hown4
                exact fun hh => qq _ hh (.inr rfl)
              have hBX := hBX.keep (O := Never) (Chg.refl Never _).drew (fun h => h)
              have hAX := hAX.drew
              have c0 := (hc.trans hAX).cellNever C0.out
              have c1 := (hc.trans hAX).cellNever C1.out
              have hO : ∀ j, ((Old w.heap.size j ∨ (Value.slice (some ⟨g, 0, none⟩) (init.length + 1) gcap).ownBlock = some j) ∨ j = wr.heap.size) → j < (wr.alloc (.cells #[.int .i64 q.old, .int .i64 q.new, .slice ma mn mc] 24)).drew.heap.size := by
                have e : (wr.alloc (.cells #[.int .i64 q.old, .int .i64 q.new, .slice ma mn mc] 24)).drew.heap.size = wr.heap.size + 1 := World.size_alloc _ _
                rw [e]
                rintro j ((hh | hh) | rfl)
                · unfold Old at hh; omega
                · have : g = j := by injection hh
                  omega
                · omega
              obtain ⟨b0, b1, b2⟩ := hBX.cell
              have b3 := hBX.free
              have hBlt := hBX.lt
              have hglt : g < _ := Nat.lt_of_lt_of_le hgl hAX.size
              have m0' := hAX.cellNever m0
              have m1' := hAX.cellNever m1
              have m2' := hAX.cellNever m2
              have hfr' : ∀ j, _ = false := fun j => (hAX.frozen (p := ⟨g, j, none⟩) hgl (fun x => x)).trans (hfr j)
              have hgBn : g ≠ wr.heap.size := by omega
              go_wp2_with fail
              clear m0 m1 m2 hfr
              generalize wr.alloc (.cells #[.int .i64 q.old, .int .i64 q.new, .slice ma mn mc] 24) = w4 at hBX hAX c0 c1 hO hBlt hglt b0 b1 b2 b3 m0' m1' m2' hfr' hown4 ⊢
              generalize hBe : wr.heap.size = B at hBX hAX hO hBlt b0 b1 b2 b3 hgBn hBM hown4 hgl hBw ⊢
              have HBE := Lib.hid hBe
              clear hBe
              have hBlt2 : B < w4.heap.size := hBlt
              have b2w : w4.cell? ⟨B, 2, none⟩ = some (.slice ma mn mc) := b2
              go_region_law ((refine step_push (by rfl) _ _ 22 (by rfl) elemOk_mark (l := (q).marks) (y := ⟨sg, tx⟩) (by rfl) (by rfl) (by simp) hown4 (rd_mark _ _ sg tx s0 s1 hxs) hO hlm ?_; intro v' w5 hown2 hc2 hk2; obtain ⟨ad, nn, cc, rfl⟩ := own_slice hk2; have hB5 := hBX.keep hc2 hBM; obtain ⟨b0', b1', b2'⟩ := hB5.cell; have b3' := hB5.free))
              all_goals
                have hB6 := hB5.set2 (.slice (some ad) nn cc)
                obtain ⟨k0, k1, k2⟩ := hB6.cell
                have hCB : Chg (fun k => k = B) w5 (w5.setCell ⟨B, 2, none⟩ (.slice (some ad) nn cc)) := (Chg.refl (fun k => k = B) w5).setCell (p := ⟨B, 2, none⟩) (.inr rfl) _
                have n0 := hCB.cell (p := ⟨g, init.length * 3, none⟩) (hc2.cell (p := ⟨g, init.length * 3, none⟩) m0' hgM) hgBn
                have n1 := hCB.cell (p := ⟨g, init.length * 3 + 1, none⟩) (hc2.cell (p := ⟨g, init.length * 3 + 1, none⟩) m1' hgM) hgBn
                have n2 := hCB.cell (p := ⟨g, init.length * 3 + 2, none⟩) (hc2.cell (p := ⟨g, init.length * 3 + 2, none⟩) m2' hgM) hgBn
                have hgl5 : g < w5.heap.size := Nat.lt_of_lt_of_le hglt hc2.size
                have nf := fun j => (hCB.frozen (p := ⟨g, j, none⟩) hgl5 hgBn).trans ((hc2.frozen (p := ⟨g, j, none⟩) hglt hgM).trans (hfr' j))
                have S0 := setCell_same n0
                have S1 := setCell_same n1
                have hown6 := hown2.keep (O'' := fun j => Old w.heap.size j ∨ (Value.slice (some ⟨g, 0, none⟩) (init.length + 1) gcap).ownBlock = some j) hCB (fun _ _ h => .inr h) (fun _ _ h => .inl h)
                have hc6 : Chg (OwnB (.slice ma mn mc)) wr (w5.setCell ⟨B, 2, none⟩ (.slice (some ad) nn cc)) := (((hAX.mono (fun _ _ h => h.elim)).trans hc2).setCell (p := ⟨B, 2, none⟩) (.inl (Nat.le_of_eq HBE.out)) _)
                have hst := OwnLast.stored hlast hown6 hc6 (by
                  obtain ⟨kb, q1, q2⟩ := hk2
                  exact ⟨kb, q1, q2.imp_right (Nat.le_trans hAX.size)⟩)
                have hcW : Chg Never w (w5.setCell ⟨B, 2, none⟩ (.slice (some ad) nn cc)) := hc.trans' hc6 (fun i hi hh => by
                  obtain ⟨_, _, qq, _⟩ := hown4
                  exact qq i hh (.inl (.inl hi)))
                clear hB5 hB6 hCB hown2 hown4 hown6 hc6 hc2 hk2 hlast hBX hAX hO b0 b1 b2 b3 b2w m0' m1' m2' hfr' b0' b1' b2' b3' hc
                go_wp2_with fail
                go_roundw
                case rel => exact ⟨k + 1, by omega, by go_num, by rw [wasIn_succ, HIN.out], hcW.setCell (.inl hgge) _, by rw [wasIn_succ, HIN.out, CutOwn, if_pos rfl]; exact ⟨_, _, _, _, HF.out, hst⟩⟩
                case measure => simp [intOf] <;> omega
            | false =>
              have HW := Lib.hid hwas
              have hown' := hown
              unfold CutOwn at hown'
              rw [if_neg (by rw [hwas]; decide)] at hown'
              have HF := Lib.hid (cutTo_new HX.out hin hwas)
              have HLK : (cutTo s n k).length ≤ 120 := by omega
              generalize cutTo s n k = init at HF hown' HLK
              obtain ⟨sb, z0, z1, hrunS, hsub⟩ := slice_gen (P := Tryd.prog) (t := 22) (by kernel_rfl) size_mark h 0 k (Nat.zero_le _) (by omega)
              have hrunS := fun (wx : World) => hrunS k wx rfl rfl
              clear z0 z1 hwas hin hown hlen
              rw [Nat.sub_zero, Nat.sub_zero] at hrunS hsub
              rw [List.drop_zero] at hsub
              have HTF := Lib.hid (scriptFault_sub (m := s.take k) HZ.out (fun x hx => List.mem_of_mem_take hx) (by rw [List.length_take]; omega))
              have hTL : (s.take k).length = k := by rw [List.length_take]; omega
              have ho1 : oldN (s.take k) ≤ k := Nat.le_trans (oldN_le _) (by omega)
              have hn1 : newN (s.take k) ≤ k := Nat.le_trans (newN_le _) (by omega)
              go_wp2_with fail
              refine wp_region_held_drew (S := fun w' => Chg Never w w') (by kernel_rfl) hc.drew (fun hH => ?_)
              refine' wpAnyH_take (i := 0) ?hi0 (by kernel_rfl) (by kernel_rfl) (by kernel_rfl) ?hQ0 (Or.inl ⟨?hw0, ?hy0⟩) (by assumption) ?_
              case hi0 => (simp only [List.getElem?_toArray, List.getElem?_cons_succ, List.getElem?_cons_zero]; rfl)
              case hQ0 => exact fun _ _ _ h => h
              case hw0 => rfl
              case hy0 => (intro w' hSw; (try dsimp only at hSw); go_simp; all_goals with_reducible rfl)
              try simp only [Act.put, List.setIfInBounds_toArray, List.set_cons_zero, List.set_cons_succ]
              refine' wpAnyH_take (i := 1) ?hi1 (by kernel_rfl) (by kernel_rfl) (by kernel_rfl) ?hQ1 (Or.inl ⟨?hw1, ?hy1⟩) (by assumption) ?_
              case hi1 => (simp only [List.getElem?_toArray, List.getElem?_cons_succ, List.getElem?_cons_zero]; rfl)
              case hQ1 => exact fun _ _ _ h => h
              case hw1 => rfl
              case hy1 => (intro w' hSw; (try dsimp only at hSw); go_simp; all_goals with_reducible rfl)
              try simp only [Act.put, List.setIfInBounds_toArray, List.set_cons_zero, List.set_cons_succ]
              refine' wpAnyH_take (i := 2) ?hi2 (by kernel_rfl) (by kernel_rfl) (by kernel_rfl) ?hQ2 (Or.inl ⟨?hw2, ?hy2⟩) (by assumption) ?_
              case hi2 => (simp only [List.getElem?_toArray, List.getElem?_cons_succ, List.getElem?_cons_zero]; rfl)
              case hQ2 => exact fun _ _ _ h => h
              case hw2 => rfl
              case hy2 => (intro w' hSw; (try dsimp only at hSw); go_simp; all_goals with_reducible rfl)
              try simp only [Act.put, List.setIfInBounds_toArray, List.set_cons_zero, List.set_cons_succ]
              refine' wpAnyH_take (i := 3) ?hi3 (by kernel_rfl) (by kernel_rfl) (by kernel_rfl) ?hQ3 (Or.inl ⟨?hw3, ?hy3⟩) (by assumption) ?_
              case hi3 => (simp only [List.getElem?_toArray, List.getElem?_cons_succ, List.getElem?_cons_zero]; rfl)
              case hQ3 => exact fun _ _ _ h => h
              case hw3 => rfl
              case hy3 => (intro w' hSw; (try dsimp only at hSw); go_simp; all_goals with_reducible rfl)
              try simp only [Act.put, List.setIfInBounds_toArray, List.set_cons_zero, List.set_cons_succ]
              refine' wpAnyH_take (i := 6) ?hi6 (by kernel_rfl) (by kernel_rfl) (by kernel_rfl) ?hQ6 (Or.inl ⟨?hw6, ?hy6⟩) (by assumption) ?_
              case hi6 => (simp only [List.getElem?_toArray, List.getElem?_cons_succ, List.getElem?_cons_zero]; rfl)
              case hQ6 => exact fun _ _ _ h => h
              case hw6 => rfl
              case hy6 => (intro w' hSw; (try dsimp only at hSw); go_simp; all_goals with_reducible rfl)
              try simp only [Act.put, List.setIfInBounds_toArray, List.set_cons_zero, List.set_cons_succ]
              refine' wpAnyH_take (i := 7) ?hi7 (by kernel_rfl) (by kernel_rfl) (by kernel_rfl) ?hQ7 (Or.inl ⟨?hw7, ?hy7⟩) (by assumption) ?_
              case hi7 => (simp only [List.getElem?_toArray, List.getElem?_cons_succ, List.getElem?_cons_zero]; rfl)
              case hQ7 => exact fun _ _ _ h => h
              case hw7 => rfl
              case hy7 => (intro w' hSw; (try dsimp only at hSw); go_simp; all_goals with_reducible rfl)
              try simp only [Act.put, List.setIfInBounds_toArray, List.set_cons_zero, List.set_cons_succ]
              refine' wpAnyH_take (i := 8) ?hi8 (by kernel_rfl) (by kernel_rfl) (by kernel_rfl) ?hQ8 (Or.inl ⟨?hw8, ?hy8⟩) (by assumption) ?_
              case hi8 => (simp only [List.getElem?_toArray, List.getElem?_cons_succ, List.getElem?_cons_zero]; rfl)
              case hQ8 => exact fun _ _ _ h => h
              case hw8 => rfl
              case hy8 => (intro w' hSw; (try dsimp only at hSw); go_simp; all_goals with_reducible rfl)
              try simp only [Act.put, List.setIfInBounds_toArray, List.set_cons_zero, List.set_cons_succ]
              refine wpAnyH_ready (rs := [4]) (by kernel_rfl) (by simp) ?_
              refine AllReadyH.cons rfl (fun K hK => ?_) AllReadyH.nil
              go_simp
              (go_at_call 32; refine (refOld_any (s.take k) _ _ (hsub.never hH) HTF.out).mono ?_; rintro e wq ⟨rq, rfl, hcq, hrq⟩; have hrO := hrq.sub (O' := Never) (fun _ _ h => h.elim); clear hrq; obtain ⟨oa, oc, rfl, _, _, _⟩ := rdv_slice hrO; have hS2 := hH.trans hcq; clear hH)
              try go_wp2_with fail
              refine hK.out _ _ ?_ (fun hH => ?_)
              · assumption
              clear hK K
              try simp only [Act.put, List.setIfInBounds_toArray, List.set_cons_zero, List.set_cons_succ]
              refine' wpAnyH_take (i := 5) ?hi5 (by kernel_rfl) (by kernel_rfl) (by kernel_rfl) ?hQ5 (Or.inl ⟨?hw5, ?hy5⟩) (by assumption) ?_
              case hi5 => (simp only [List.getElem?_toArray, List.getElem?_cons_succ, List.getElem?_cons_zero]; rfl)
              case hQ5 => exact fun _ _ _ h => h
              case hw5 => rfl
              case hy5 => (intro w' hSw; (try dsimp only at hSw); go_simp; all_goals with_reducible rfl)
              try simp only [Act.put, List.setIfInBounds_toArray, List.set_cons_zero, List.set_cons_succ]
              refine wpAnyH_ready (rs := [9]) (by kernel_rfl) (by simp) ?_
              refine AllReadyH.cons rfl (fun K hK => ?_) AllReadyH.nil
              go_simp
              (go_at_call 33; refine (refNew_any (s.take k) _ _ (hsub.never hH) HTF.out).mono ?_; rintro e wq2 ⟨rq2, rfl, hcq2, hrq2⟩; have hrN := hrq2.sub (O' := Never) (fun _ _ h => h.elim); clear hrq2; obtain ⟨na, nc, rfl, _, _, _⟩ := rdv_slice hrN; have hS3 := hH.trans hcq2; clear hH)
              try go_wp2_with fail
              refine hK.out _ _ ?_ (fun hH => ?_)
              · assumption
              clear hK K
              try simp only [Act.put, List.setIfInBounds_toArray, List.set_cons_zero, List.set_cons_succ]
              refine' wpAnyH_take (i := 10) ?hi10 (by kernel_rfl) (by kernel_rfl) (by kernel_rfl) ?hQ10 (Or.inl ⟨?hw10, ?hy10⟩) (by assumption) ?_
              case hi10 => (simp only [List.getElem?_toArray, List.getElem?_cons_succ, List.getElem?_cons_zero]; rfl)
              case hQ10 => exact fun _ _ _ h => h
              case hw10 => rfl
              case hy10 => (intro w' hSw; (try dsimp only at hSw); go_simp; all_goals with_reducible rfl)
              try simp only [Act.put, List.setIfInBounds_toArray, List.set_cons_zero, List.set_cons_succ]
              refine' wpAnyH_take (i := 11) ?hi11 (by kernel_rfl) (by kernel_rfl) (by kernel_rfl) ?hQ11 (Or.inl ⟨?hw11, ?hy11⟩) (by assumption) ?_
              case hi11 => (simp only [List.getElem?_toArray, List.getElem?_cons_succ, List.getElem?_cons_zero]; rfl)
              case hQ11 => exact fun _ _ _ h => h
              case hw11 => rfl
              case hy11 => (intro w' hSw; (try dsimp only at hSw); go_simp; all_goals with_reducible rfl)
              try simp only [Act.put, List.setIfInBounds_toArray, List.set_cons_zero, List.set_cons_succ]
              refine wpAnyH_ready (rs := [12]) (by kernel_rfl) (by simp) ?_
              refine AllReadyH.cons rfl (fun K hK => ?_) AllReadyH.nil
              go_simp
              refine hK.out _ _ (hH.alloc _) (fun hH2 => ?_)
              clear hK K
              try simp only [Act.put, List.setIfInBounds_toArray, List.set_cons_zero, List.set_cons_succ]
              have hq := ((Chg.refl Never wr).drew.trans hcq).trans hcq2
              have hownq := hown'.never hq
              refine wpAnyH_ready (rs := [13]) (by kernel_rfl) (by simp) ?_
              refine AllReadyH.cons rfl (fun K hK => ?_) AllReadyH.nil
              refine step_push_last (by rfl) _ _ 58 (by rfl) 66 elemOk_hunk (by rfl) (by rfl) (by simp) hownq (old_lt hH) (by omega) ?_
              intro v' wp xs hlast hc4
              obtain ⟨g, gcap, rfl, hg1, hg2, hg3, hg4, m2, m0, m1, hfr⟩ := hlast.shape
              have hcn : Chg Never w wp := own_step hH hownq hc4
              refine hK.out _ _ hcn (fun _ => ?_)
              clear hK K hq hownq hown' hH hH2 hcq hcq2 hc4
              try simp only [Act.put, List.setIfInBounds_toArray, List.set_cons_zero, List.set_cons_succ]
              refine' wpAnyH_take (i := 14) ?hi14 (by kernel_rfl) (by kernel_rfl) (by kernel_rfl) ?hQ14 (Or.inl ⟨?hw14, ?hy14⟩) (by assumption) ?_
              case hi14 => (simp only [List.getElem?_toArray, List.getElem?_cons_succ, List.getElem?_cons_zero]; rfl)
              case hQ14 => exact fun _ _ _ h => h
              case hw14 => rfl
              case hy14 => (intro w' hSw; (try dsimp only at hSw); go_simp; all_goals with_reducible rfl)
              try simp only [Act.put, List.setIfInBounds_toArray, List.set_cons_zero, List.set_cons_succ]
              refine wpAnyH_done (by kernel_rfl) ?_ _
              clear hc
              have hc := hcn
              clear hcn
              have hil := HLK
              have hlm : ([] : List Mark).length ≤ 1000000000 := by simp
              have z1 : (init.length : Int) + 1 - 1 = init.length := by omega
              have hBX := Blk3.new wp 24 (.int .i64 ((those (s.take k) 43).length : Int)) (.int .i64 ((those (s.take k) 45).length : Int)) (.slice none 0 0)
              have hAX : Chg Never wp (wp.alloc (.cells #[.int .i64 ((those (s.take k) 43).length : Int), .int .i64 ((those (s.take k) 45).length : Int), .slice none 0 0] 24)) := (Chg.refl Never wp).alloc _
              have hgge : w.heap.size ≤ g := by unfold Old at hg2; omega
              have hBw : w.heap.size ≤ wp.heap.size := hc.size
              have hgl : g < wp.heap.size := (hlast.row.lt g rfl).2
              have hown4 := hlast.marks.keep (O'' := fun j => (Old w.heap.size j ∨ (Value.slice (some ⟨g, 0, none⟩) (init.length + 1) gcap).ownBlock = some j) ∨ j = wp.heap.size) hAX.drew (fun _ _ hh => hh.elim) (by rintro j hj (hh | rfl); exact hh; exact absurd hj (Nat.lt_irrefl _))
              have hgM : ¬ OwnB (.slice none 0 0) g := by
                obtain ⟨_, _, qq, _⟩ := hown4
                exact fun hh => qq g hh (.inl (.inr rfl))
              have hBM : ¬ OwnB (.slice none 0 0) wp.heap.size := by
                obtain ⟨_, _, qq, _⟩ := hown4
                exact fun hh => qq _ hh (.inr rfl)
              have hBX := hBX.keep (O := Never) (Chg.refl Never _).drew (fun h => h)
              have hAX := hAX.drew
              have c0 := (hc.trans hAX).cellNever C0.out
              have c1 := (hc.trans hAX).cellNever C1.out
              have hO : ∀ j, ((Old w.heap.size j ∨ (Value.slice (some ⟨g, 0, none⟩) (init.length + 1) gcap).ownBlock = some j) ∨ j = wp.heap.size) → j < (wp.alloc (.cells #[.int .i64 ((those (s.take k) 43).length : Int), .int .i64 ((those (s.take k) 45).length : Int), .slice none 0 0] 24)).drew.heap.size := by
                have e : (wp.alloc (.cells #[.int .i64 ((those (s.take k) 43).length : Int), .int .i64 ((those (s.take k) 45).length : Int), .slice none 0 0] 24)).drew.heap.size = wp.heap.size + 1 := World.size_alloc _ _
                rw [e]
                rintro j ((hh | hh) | rfl)
                · unfold Old at hh; omega
                · have : g = j := by injection hh
                  omega
                · omega
              obtain ⟨b0, b1, b2⟩ := hBX.cell
              have b3 := hBX.free
              have hBlt := hBX.lt
              have hglt : g < _ := Nat.lt_of_lt_of_le hgl hAX.size
              have m0' := hAX.cellNever m0
              have m1' := hAX.cellNever m1
              have m2' := hAX.cellNever m2
              have hfr' : ∀ j, _ = false := fun j => (hAX.frozen (p := ⟨g, j, none⟩) hgl (fun x => x)).trans (hfr j)
              have hgBn : g ≠ wp.heap.size := by omega
              go_wp2_with fail
              clear m0 m1 m2 hfr
              generalize wp.alloc (.cells #[.int .i64 ((those (s.take k) 43).length : Int), .int .i64 ((those (s.take k) 45).length : Int), .slice none 0 0] 24) = w4 at hBX hAX c0 c1 hO hBlt hglt b0 b1 b2 b3 m0' m1' m2' hfr' hown4 ⊢
              generalize hBe : wp.heap.size = B at hBX hAX hO hBlt b0 b1 b2 b3 hgBn hBM hown4 hgl hBw ⊢
              have HBE := Lib.hid hBe
              clear hBe
              have hBlt2 : B < w4.heap.size := hBlt
              have b2w : w4.cell? ⟨B, 2, none⟩ = some (.slice none 0 0) := b2
              go_region_law ((refine step_push (by rfl) _ _ 22 (by rfl) elemOk_mark (l := ((⟨((those (s.take k) 43).length : Int), ((those (s.take k) 45).length : Int), []⟩ : Hunk)).marks) (y := ⟨sg, tx⟩) (by rfl) (by rfl) (by simp) hown4 (rd_mark _ _ sg tx s0 s1 hxs) hO hlm ?_; intro v' w5 hown2 hc2 hk2; obtain ⟨ad, nn, cc, rfl⟩ := own_slice hk2; have hB5 := hBX.keep hc2 hBM; obtain ⟨b0', b1', b2'⟩ := hB5.cell; have b3' := hB5.free))
              all_goals
                have hB6 := hB5.set2 (.slice (some ad) nn cc)
                obtain ⟨k0, k1, k2⟩ := hB6.cell
                have hCB : Chg (fun k => k = B) w5 (w5.setCell ⟨B, 2, none⟩ (.slice (some ad) nn cc)) := (Chg.refl (fun k => k = B) w5).setCell (p := ⟨B, 2, none⟩) (.inr rfl) _
                have n0 := hCB.cell (p := ⟨g, init.length * 3, none⟩) (hc2.cell (p := ⟨g, init.length * 3, none⟩) m0' hgM) hgBn
                have n1 := hCB.cell (p := ⟨g, init.length * 3 + 1, none⟩) (hc2.cell (p := ⟨g, init.length * 3 + 1, none⟩) m1' hgM) hgBn
                have n2 := hCB.cell (p := ⟨g, init.length * 3 + 2, none⟩) (hc2.cell (p := ⟨g, init.length * 3 + 2, none⟩) m2' hgM) hgBn
                have hgl5 : g < w5.heap.size := Nat.lt_of_lt_of_le hglt hc2.size
                have nf := fun j => (hCB.frozen (p := ⟨g, j, none⟩) hgl5 hgBn).trans ((hc2.frozen (p := ⟨g, j, none⟩) hglt hgM).trans (hfr' j))
                have S0 := setCell_same n0
                have S1 := setCell_same n1
                have hown6 := hown2.keep (O'' := fun j => Old w.heap.size j ∨ (Value.slice (some ⟨g, 0, none⟩) (init.length + 1) gcap).ownBlock = some j) hCB (fun _ _ h => .inr h) (fun _ _ h => .inl h)
                have hc6 : Chg (OwnB (.slice none 0 0)) wp (w5.setCell ⟨B, 2, none⟩ (.slice (some ad) nn cc)) := (((hAX.mono (fun _ _ h => h.elim)).trans hc2).setCell (p := ⟨B, 2, none⟩) (.inl (Nat.le_of_eq HBE.out)) _)
                have hst := OwnLast.stored hlast hown6 hc6 (by
                  obtain ⟨kb, q1, q2⟩ := hk2
                  exact ⟨kb, q1, q2.imp_right (Nat.le_trans hAX.size)⟩)
                have hcW : Chg Never w (w5.setCell ⟨B, 2, none⟩ (.slice (some ad) nn cc)) := hc.trans' hc6 (fun i hi hh => by
                  obtain ⟨_, _, qq, _⟩ := hown4
                  exact qq i hh (.inl (.inl hi)))
                clear hB5 hB6 hCB hown2 hown4 hown6 hc6 hc2 hk2 hlast hBX hAX hO b0 b1 b2 b3 b2w m0' m1' m2' hfr' b0' b1' b2' b3' hc
                go_wp2_with fail
                go_roundw
                case rel => exact ⟨k + 1, by omega, by go_num, by rw [wasIn_succ, HIN.out], hcW.setCell (.inl hgge) _, by rw [wasIn_succ, HIN.out, CutOwn, if_pos rfl]; exact ⟨_, _, _, _, HF.out, hst⟩⟩
                case measure => simp [intOf] <;> omega
    · go_wp2_with fail
      go_ret
      obtain rfl : k = s.length := by omega
      exact ⟨_, rfl, hc, hown.own.rdv⟩
end Go.Proofs.YtibeddcebefbjaaDoor
namespace Go.Proofs.YtibeddcebefbjaaDoor
open Go.RowKit

theorem putLoop_all {a b : List File} {k : Nat} {x : File} (h : Sorted a) (hx : b[k]? = some x) : putLoop x false (allOf a (b.take k)) = allOf a (b.take (k + 1)) := by
  rw [all_step a b hx, putLoop_sorted x _ (all_sorted _ _ h)]
/-- what the loop's round has at a path -/
theorem lt_of_get {α : Type} {l : List α} {i : Nat} {x : α} (h : l[i]? = some x) : i < l.length := (List.getElem?_eq_some_iff.1 h).1
set_option maxHeartbeats 4000000 in
set_option maxRecDepth 100000 in
theorem refDiff_any (a b : List File) (n : Int) (va vb : Value) (w : World) (ha : Rdv w Never va a) (hb : Rdv w Never vb b) (ta : (treeFault a).2 = 0) (tb : (treeFault b).2 = 0) (n0 : 0 ≤ n) (n1 : n ≤ 1000) :
    Calls Tryd.prog 22 #[va, vb, .int .i64 n] w fun e w' => ∃ r, e = .returned r ∧ Chg Never w w' ∧ Rdv w' Never r (refDiff a b n) := by
  obtain ⟨al, af, asr, _⟩ := treeFault_zero ta
  obtain ⟨bl, bf, bs, _⟩ := treeFault_zero tb
  obtain ⟨aa, acap, rfl, a1, a2, a3⟩ := rdv_slice ha
  obtain ⟨ba, bcap, rfl, b1, b2, b3⟩ := rdv_slice hb
  unfold maxLen at a2 b2
  have AF := Lib.hid af
  have BF := Lib.hid bf
  have AS := Lib.hid asr
  have BS := Lib.hid bs
  have HA := Lib.hid ha
  have HB := Lib.hid hb
  clear af bf asr bs ta tb ha hb
  go_enter Tryd.func22, Tryd.ntmps22
  go_wp2_with fail
  go_loopw [7, 8] (fun v i wr => ∃ k : Nat, k ≤ b.length ∧ i = .int .i64 k ∧ Chg Never w wr ∧ Rdv wr Never v (allOf a (b.take k))) (fun _ i _ => b.length - (intOf i).toNat)
  case atStart => exact ⟨0, Nat.zero_le _, rfl, Chg.refl _ _, HA.out⟩
  case round =>
    obtain ⟨k, hk, rfl, hc, hall⟩ := hrel
    have hal := allOf_len (b.take k) a AS.out
    rw [List.length_take] at hal
    by_cases hlt : k < b.length
    · obtain ⟨x, hx⟩ : ∃ x, b[k]? = some x := ⟨b[k], by simp [hlt]⟩
      obtain ⟨o, off, lv, rfl, _, _, c0, c1, hps, hlv⟩ := elems_file b3 hx
      have c0 := hc.cellNever c0
      have c1 := hc.cellNever c1
      have hlv := hlv.never hc
      have HP := Lib.hid (putLoop_all AS.out hx)
      clear hx
      go_wp2_with fail
      refine (refPut_any (allOf a (b.take k)) x _ _ _ hall hlv hps (by omega)).mono ?_
      rintro e w2 ⟨r, rfl, hc2, hr⟩
      rw [HP.out] at hr
      have hc3 := hc.trans hc2
      clear c0 c1 hc2 hall
      go_wp2_with fail
      go_roundw
      case rel => exact ⟨k + 1, by omega, by go_num, hc3, hr⟩
      case measure => simp [intOf] <;> omega
    · obtain rfl : k = b.length := by omega
      rw [List.take_length] at hall hal
      have HS : Hid (Sorted (allOf a b)) := all_sorted b a AS.out
      have HK : ∀ f, f ∈ allOf a b → Hid (¬ (look a f.path = none ∧ look b f.path = none)) := fun f hf => all_known AS.out BS.out hf
      generalize hM : allOf a b = M at hall hal HS HK
      have HM := Lib.hid hM
      clear hM
      have hml : M.length ≤ 16 := by omega
      obtain ⟨ma, mcap, rfl, m1, m2, m3⟩ := rdv_slice hall
      unfold maxLen at m2
      have hn0 := ownN_nil (α := Change) 60 (Chg.refl Never wr)
      clear hal
      go_wp2_with fail
      go_loopw [9, 10] (fun v i wz => ∃ (k : Nat) (L : List Change), k ≤ M.length ∧ i = .int .i64 k ∧ OwnN 60 wr wz v L ∧ L.length ≤ k ∧ Hid (L = (M.take k).flatMap fun f => chg n f.path (look a f.path) (look b f.path))) (fun _ i _ => M.length - (intOf i).toNat)
      case atStart => exact ⟨0, [], Nat.zero_le _, rfl, hn0, Nat.le_refl _, rfl⟩
      case round =>
        clear hn0
        rename_i vO iO wz
        obtain ⟨k, L, hk, rfl, hn, hLk, HL⟩ := hrel
        obtain ⟨oa, on, oc, rfl⟩ := own_isSlice hn.own
        have hw := hc.trans hn.chg
        have hLl : L.length ≤ 1000000000 := by omega
        by_cases hlt : k < M.length
        · obtain ⟨x, hx⟩ : ∃ x, M[k]? = some x := ⟨M[k], by simp [hlt]⟩
          obtain ⟨o, off, lv, rfl, _, _, c0, _, hpp, _⟩ := elems_file m3 hx
          have c0 := hn.chg.cellNever c0
          have HX := Lib.hid hx
          have HKX := HK x (List.mem_of_getElem? hx)
          clear hx
          go_wp2_with fail
          refine (refPlace_any a x.path _ _ (HA.out.never hw)).mono ?_
          rintro e w2 ⟨rfl, hd2⟩
          have hn := hn.never hd2
          have hw := hw.trans hd2
          clear hd2 c0
          go_wp2_with fail
          refine (refPlace_any b x.path _ _ (HB.out.never hw)).mono ?_
          rintro e w3 ⟨rfl, hd3⟩
          have hn := hn.never hd3
          have hw := hw.trans hd3
          clear hd3
          rcases placeI_look a x.path with ⟨pa, la⟩ | ⟨i, f, pa, fi, la⟩
          · rcases placeI_look b x.path with ⟨pb, lb⟩ | ⟨j, g, pb, gj, lb⟩
            · exact absurd ⟨la, lb⟩ HKX.out
            · have HCH : Hid (chg n x.path (look a x.path) (look b x.path) = [⟨2, x.path, wholeR g.lines 43⟩]) := by rw [la, lb]; rfl
              obtain ⟨o', off', lv', hbo, _, _, _, d1, _, hlv⟩ := elems_file b3 gj
              have d1 := hw.cellNever d1
              have hlv := hlv.never hw
              have hjl := lt_of_get gj
              have hgl := linesFault_len (fileFault_lines (BF.out g (List.mem_of_getElem? gj)))
              subst hbo
              rw [pa, pb]
              clear la lb pa pb gj
              go_wp2_with fail
              refine (refWhole_any g.lines 43 _ _ hlv (by decide) (by decide) (by omega)).mono ?_
              rintro e w4 ⟨r, rfl, hd4, hrr⟩
              have hrr := hn.fresh hrr
              have hn := hn.never hd4
              clear hd4 d1
              obtain ⟨ra, rc, rfl, _, _, _⟩ := rdv_slice hrr
              have hy1 : Dat.rd _ (fun k => Never k ∨ _ = some k) _ (⟨2, x.path, wholeR g.lines 43⟩ : Change) := ⟨_, rfl, hpp, hrr⟩
              go_wp2_with (at_builtin; refine wpList_push (by rfl) _ _ 51 (by rfl) elemOk_change (O := Never) (l := L) (y := (⟨2, x.path, wholeR g.lines 43⟩ : Change)) (by rfl) (by rfl) (by rfl) hn.own hy1 (fun _ h => h.elim) hLl ?_; intro v' w9 hown2 hc2 hk2; have hn2 := hn.step1 hown2 hc2 hk2; clear hown2 hc2 hk2 hn hy1)
              go_roundw
              case rel => exact ⟨k + 1, L ++ [(⟨2, x.path, wholeR g.lines 43⟩ : Change)], by omega, by go_num, hn2, by rw [List.length_append]; simp; omega, by rw [flat_take HX.out, ← HL.out, HCH.out]; exact rfl⟩
              case measure => simp [intOf] <;> omega
          · have hil := lt_of_get fi
            obtain ⟨o', off', lv', hao, _, _, _, e1, _, hlf⟩ := elems_file a3 fi
            have e1 := hw.cellNever e1
            have hlf := hlf.never hw
            have hff := fileFault_lines (AF.out f (List.mem_of_getElem? fi))
            have hfl := linesFault_len hff
            subst hao
            have x0 : ((i : Int) < 0) = False := by simp
            rcases placeI_look b x.path with ⟨pb, lb⟩ | ⟨j, g, pb, gj, lb⟩
            · have HCH : Hid (chg n x.path (look a x.path) (look b x.path) = [⟨3, x.path, wholeR f.lines 45⟩]) := by rw [la, lb]; rfl
              rw [pa, pb]
              clear la lb pa pb fi hff
              go_wp2_with fail
              refine (refWhole_any f.lines 45 _ _ hlf (by decide) (by decide) (by omega)).mono ?_
              rintro e w4 ⟨r, rfl, hd4, hrr⟩
              have hrr := hn.fresh hrr
              have hn := hn.never hd4
              clear hd4 e1
              obtain ⟨ra, rc, rfl, _, _, _⟩ := rdv_slice hrr
              have hy1 : Dat.rd _ (fun k => Never k ∨ _ = some k) _ (⟨3, x.path, wholeR f.lines 45⟩ : Change) := ⟨_, rfl, hpp, hrr⟩
              go_wp2_with (at_builtin; refine wpList_push (by rfl) _ _ 51 (by rfl) elemOk_change (O := Never) (l := L) (y := (⟨3, x.path, wholeR f.lines 45⟩ : Change)) (by rfl) (by rfl) (by rfl) hn.own hy1 (fun _ h => h.elim) hLl ?_; intro v' w9 hown2 hc2 hk2; have hn2 := hn.step1 hown2 hc2 hk2; clear hown2 hc2 hk2 hn hy1)
              go_roundw
              case rel => exact ⟨k + 1, L ++ [(⟨3, x.path, wholeR f.lines 45⟩ : Change)], by omega, by go_num, hn2, by rw [List.length_append]; simp; omega, by rw [flat_take HX.out, ← HL.out, HCH.out]; exact rfl⟩
              case measure => simp [intOf] <;> omega
            · obtain ⟨o'', off'', lv'', hbo, _, _, _, d1, _, hlg⟩ := elems_file b3 gj
              have d1 := hw.cellNever d1
              have hlg := hlg.never hw
              have hjl := lt_of_get gj
              have hgg := fileFault_lines (BF.out g (List.mem_of_getElem? gj))
              have hgl := linesFault_len hgg
              subst hbo
              have SV := Lib.hid (script_valid (checked_zero hff hgg))
              rw [pa, pb]
              clear pa pb fi gj hff hgg
              go_wp2_with fail
              refine wp_region_held_drew (S := fun w' => Chg Never w3 w' ∧ w'.cell? ⟨o', off' + i * 2 + 1, none⟩ = some lv' ∧ w'.cell? ⟨o'', off'' + j * 2 + 1, none⟩ = some lv'') (by kernel_rfl) ⟨(Chg.refl Never w3).drew, e1, d1⟩ (fun hH => ?_)
              refine' wpAnyH_take (i := 0) ?hi0 (by kernel_rfl) (by kernel_rfl) (by kernel_rfl) ?hQ0 (Or.inl ⟨?hw0, ?hy0⟩) (by assumption) ?_
              case hi0 => (simp only [List.getElem?_toArray, List.getElem?_cons_succ, List.getElem?_cons_zero]; rfl)
              case hQ0 => exact fun _ _ _ h => h
              case hw0 => rfl
              case hy0 => (intro w' hSw; (try dsimp only at hSw); go_simp; all_goals with_reducible rfl)
              try simp only [Act.put, List.setIfInBounds_toArray, List.set_cons_zero, List.set_cons_succ]
              refine' wpAnyH_take (i := 1) ?hi1 (by kernel_rfl) (by kernel_rfl) (by kernel_rfl) ?hQ1 (Or.inl ⟨?hw1, ?hy1⟩) (by assumption) ?_
              case hi1 => (simp only [List.getElem?_toArray, List.getElem?_cons_succ, List.getElem?_cons_zero]; rfl)
              case hQ1 => exact fun _ _ _ h => h
              case hw1 => rfl
              case hy1 => (intro w' hSw; (try dsimp only at hSw); go_simp; all_goals with_reducible rfl)
              try simp only [Act.put, List.setIfInBounds_toArray, List.set_cons_zero, List.set_cons_succ]
              refine' wpAnyH_take (i := 2) ?hi2 (by kernel_rfl) (by kernel_rfl) (by kernel_rfl) ?hQ2 (Or.inl ⟨?hw2, ?hy2⟩) (by assumption) ?_
              case hi2 => (simp only [List.getElem?_toArray, List.getElem?_cons_succ, List.getElem?_cons_zero]; rfl)
              case hQ2 => exact fun _ _ _ h => h
              case hw2 => rfl
              case hy2 => (intro w' hSw; (try dsimp only at hSw); go_simp; all_goals with_reducible rfl)
              try simp only [Act.put, List.setIfInBounds_toArray, List.set_cons_zero, List.set_cons_succ]
              refine' wpAnyH_take (i := 3) ?hi3 (by kernel_rfl) (by kernel_rfl) (by kernel_rfl) ?hQ3 (Or.inl ⟨?hw3, ?hy3⟩) (by assumption) ?_
              case hi3 => (simp only [List.getElem?_toArray, List.getElem?_cons_succ, List.getElem?_cons_zero]; rfl)
              case hQ3 => exact fun _ _ _ h => h
              case hw3 => rfl
              case hy3 => (intro w' hSw; (try dsimp only at hSw); go_simp; all_goals with_reducible rfl)
              try simp only [Act.put, List.setIfInBounds_toArray, List.set_cons_zero, List.set_cons_succ]
              refine' wpAnyH_take (i := 4) ?hi4 (by kernel_rfl) (by kernel_rfl) (by kernel_rfl) ?hQ4 (Or.inl ⟨?hw4, ?hy4⟩) (by assumption) ?_
              case hi4 => (simp only [List.getElem?_toArray, List.getElem?_cons_succ, List.getElem?_cons_zero]; rfl)
              case hQ4 => exact fun _ _ _ h => h
              case hw4 => rfl
              case hy4 => (intro w' hSw; (try dsimp only at hSw); go_simp; all_goals with_reducible rfl)
              try simp only [Act.put, List.setIfInBounds_toArray, List.set_cons_zero, List.set_cons_succ]
              refine' wpAnyH_take (i := 5) ?hi5 (by kernel_rfl) (by kernel_rfl) (by kernel_rfl) ?hQ5 (Or.inl ⟨?hw5, ?hy5⟩) (by assumption) ?_
              case hi5 => (simp only [List.getElem?_toArray, List.getElem?_cons_succ, List.getElem?_cons_zero]; rfl)
              case hQ5 => exact fun _ _ _ h => h
              case hw5 => rfl
              case hy5 => (intro w' hSw; (try dsimp only at hSw); go_simp; all_goals with_reducible rfl)
              try simp only [Act.put, List.setIfInBounds_toArray, List.set_cons_zero, List.set_cons_succ]
              refine' wpAnyH_take (i := 6) ?hi6 (by kernel_rfl) (by kernel_rfl) (by kernel_rfl) ?hQ6 (Or.inl ⟨?hw6, ?hy6⟩) (by assumption) ?_
              case hi6 => (simp only [List.getElem?_toArray, List.getElem?_cons_succ, List.getElem?_cons_zero]; rfl)
              case hQ6 => exact fun _ _ _ h => h
              case hw6 => rfl
              case hy6 => (intro w' hSw; (try dsimp only at hSw); go_simp; all_goals with_reducible rfl)
              try simp only [Act.put, List.setIfInBounds_toArray, List.set_cons_zero, List.set_cons_succ]
              refine' wpAnyH_take (i := 7) ?hi7 (by kernel_rfl) (by kernel_rfl) (by kernel_rfl) ?hQ7 (Or.inl ⟨?hw7, ?hy7⟩) (by assumption) ?_
              case hi7 => (simp only [List.getElem?_toArray, List.getElem?_cons_succ, List.getElem?_cons_zero]; rfl)
              case hQ7 => exact fun _ _ _ h => h
              case hw7 => rfl
              case hy7 => (intro w' hSw; (try dsimp only at hSw); go_simp; all_goals with_reducible rfl)
              try simp only [Act.put, List.setIfInBounds_toArray, List.set_cons_zero, List.set_cons_succ]
              refine' wpAnyH_take (i := 8) ?hi8 (by kernel_rfl) (by kernel_rfl) (by kernel_rfl) ?hQ8 (Or.inl ⟨?hw8, ?hy8⟩) (by assumption) ?_
              case hi8 => (simp only [List.getElem?_toArray, List.getElem?_cons_succ, List.getElem?_cons_zero]; rfl)
              case hQ8 => exact fun _ _ _ h => h
              case hw8 => rfl
              case hy8 => (intro w' hSw; (try dsimp only at hSw); go_simp; all_goals with_reducible rfl)
              try simp only [Act.put, List.setIfInBounds_toArray, List.set_cons_zero, List.set_cons_succ]
              refine' wpAnyH_take (i := 9) ?hi9 (by kernel_rfl) (by kernel_rfl) (by kernel_rfl) ?hQ9 (Or.inl ⟨?hw9, ?hy9⟩) (by assumption) ?_
              case hi9 => (simp only [List.getElem?_toArray, List.getElem?_cons_succ, List.getElem?_cons_zero]; rfl)
              case hQ9 => exact fun _ _ _ h => h
              case hw9 => rfl
              case hy9 => (intro w' hSw; (try dsimp only at hSw); go_simp; all_goals with_reducible rfl)
              try simp only [Act.put, List.setIfInBounds_toArray, List.set_cons_zero, List.set_cons_succ]
              refine' wpAnyH_take (i := 11) ?hi11 (by kernel_rfl) (by kernel_rfl) (by kernel_rfl) ?hQ11 (Or.inl ⟨?hw11, ?hy11⟩) (by assumption) ?_
              case hi11 => (simp only [List.getElem?_toArray, List.getElem?_cons_succ, List.getElem?_cons_zero]; rfl)
              case hQ11 => exact fun _ _ _ h => h
              case hw11 => rfl
              case hy11 => (intro w' hSw; (try dsimp only at hSw); go_simp; all_goals with_reducible rfl)
              try simp only [Act.put, List.setIfInBounds_toArray, List.set_cons_zero, List.set_cons_succ]
              refine wpAnyH_ready (rs := [10]) (by kernel_rfl) (by simp) ?_
              refine AllReadyH.cons rfl (fun K hK => ?_) AllReadyH.nil
              go_simp
              (go_at_call 50; refine (scriptOf_any f.lines g.lines _ _ _ (hlf.never (And.left (by assumption))) (hlg.never (And.left (by assumption))) hfl hgl).mono ?_; rintro e wq ⟨rq, rfl, hcq, hrq⟩; obtain ⟨qa, qc, rfl, _, _, _⟩ := rdv_slice hrq; have hS2 := two_keep (by assumption) hcq)
              try go_wp2_with fail
              refine hK.out _ _ ?_ (fun hH => ?_)
              · assumption
              clear hK K
              try simp only [Act.put, List.setIfInBounds_toArray, List.set_cons_zero, List.set_cons_succ]
              refine wpAnyH_ready (rs := [12]) (by kernel_rfl) (by simp) ?_
              refine AllReadyH.cons rfl (fun K hK => ?_) AllReadyH.nil
              go_simp
              (go_at_call 49; refine (refCut_any (script f.lines g.lines) n _ _ (hrq.sub (fun _ _ h => h.elim)) SV.out n0 n1).mono ?_; rintro e wp ⟨rp, rfl, hcp, hrp⟩; obtain ⟨pa, pc, rfl, _, _, _⟩ := rdv_slice hrp; have hS3 := two_keep (by assumption) hcp)
              try go_wp2_with fail
              refine hK.out _ _ ?_ (fun hH => ?_)
              · assumption
              clear hK K
              try simp only [Act.put, List.setIfInBounds_toArray, List.set_cons_zero, List.set_cons_succ]
              refine' wpAnyH_take (i := 13) ?hi13 (by kernel_rfl) (by kernel_rfl) (by kernel_rfl) ?hQ13 (Or.inl ⟨?hw13, ?hy13⟩) (by assumption) ?_
              case hi13 => (simp only [List.getElem?_toArray, List.getElem?_cons_succ, List.getElem?_cons_zero]; rfl)
              case hQ13 => exact fun _ _ _ h => h
              case hw13 => rfl
              case hy13 => (intro w' hSw; (try dsimp only at hSw); go_simp; all_goals with_reducible rfl)
              try simp only [Act.put, List.setIfInBounds_toArray, List.set_cons_zero, List.set_cons_succ]
              refine wpAnyH_done (by kernel_rfl) ?_ _
              have hrr := hn.fresh (hrp.sub (O' := Old w3.heap.size) (fun k _ h => Nat.lt_of_lt_of_le h hcq.size))
              have hn := hn.never hH.1
              clear hrp hrq hlf hlg e1 d1 hH
              by_cases hcut : cutOf (script f.lines g.lines) n = []
              · have HCH : Hid (chg n x.path (look a x.path) (look b x.path) = []) := by rw [la, lb]; exact chg_none hcut
                rw [hcut] at hrr ⊢
                clear hcut la lb
                go_wp2_with fail
                go_roundw
                case rel => exact ⟨k + 1, L, by omega, by go_num, hn, by omega, by rw [flat_take HX.out, ← HL.out, HCH.out, List.append_nil]; exact rfl⟩
                case measure => simp [intOf] <;> omega
              · have HCH : Hid (chg n x.path (look a x.path) (look b x.path) = [⟨1, x.path, cutOf (script f.lines g.lines) n⟩]) := by rw [la, lb]; exact chg_some hcut
                have hpos : 0 < (cutOf (script f.lines g.lines) n).length := List.length_pos_iff.2 hcut
                clear hcut la lb
                have hy1 : Dat.rd _ (fun k => Never k ∨ _ = some k) _ (⟨1, x.path, cutOf (script f.lines g.lines) n⟩ : Change) := ⟨_, rfl, hpp, hrr⟩
                go_wp2_with (at_builtin; refine wpList_push (by rfl) _ _ 51 (by rfl) elemOk_change (O := Never) (l := L) (y := (⟨1, x.path, cutOf (script f.lines g.lines) n⟩ : Change)) (by rfl) (by rfl) (by rfl) hn.own hy1 (fun _ h => h.elim) hLl ?_; intro v' w9 hown2 hc2 hk2; have hn2 := hn.step1 hown2 hc2 hk2; clear hown2 hc2 hk2 hn hy1)
                go_roundw
                case rel => exact ⟨k + 1, L ++ [(⟨1, x.path, cutOf (script f.lines g.lines) n⟩ : Change)], by omega, by go_num, hn2, by rw [List.length_append]; simp; omega, by rw [flat_take HX.out, ← HL.out, HCH.out]; exact rfl⟩
                case measure => simp [intOf] <;> omega
        · obtain rfl : k = M.length := by omega
          go_wp2_with fail
          go_ret
          rw [List.take_length, ← HM.out] at HL
          exact ⟨_, rfl, hw, by rw [show refDiff a b n = L from HL.out.symm]; exact hn.own.rdv.sub (fun _ _ h => h.elim)⟩
end Go.Proofs.YtibeddcebefbjaaDoor
