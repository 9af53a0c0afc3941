/-
  THE WALKS of the document's best, MatchOf: row by row, all columns that are left.
-/
import Derived.Test.YtcgjegjnodopoaaDoorMatchD
import Derived.Test.YtcgjegjnodopoaaDoorRow
import Derived.Test.YtcgjegjnodopoaaDoorMany2
namespace Go.Proofs.YtcgjegjnodopoaaDoor
open Go.RowKit

/-- a slice literal of one number is the call's own -/
theorem own_one {w : World} {O : Nat → Prop} {g : Nat} {y : Int} (h : w.heap[g]? = some (.cells #[.int .i64 y] 3 (0, 0))) (hO : ¬ O g) (hy : I64 y) : Own 3 w O (.slice (some ⟨g, 0, none⟩) 1 1) [y] := by
  refine ⟨[.int .i64 y], ⟨rfl, .inr ⟨g, 1, #[.int .i64 y], rfl, Nat.zero_le _, h, Nat.le_refl _, by unfold maxLen; omega, rfl, rfl⟩⟩, ?_, ?_⟩
  · intro k hk
    simp only [Value.ownBlock, Option.some.injEq] at hk
    subst hk
    exact hO
  · intro i x hi
    match i, hi with
    | 0, hi =>
      simp only [List.getElem?_cons_zero, Option.some.injEq] at hi
      subst hi
      exact ⟨rfl, hy⟩
def LeftRow (B : Nat) (w : World) (n : Nat) (left : Nat → Bool) : Prop := ValRow 4 B w n fun k => .bool (!left k)
theorem LeftRow.take {B : Nat} {w : World} {n : Nat} {left : Nat → Bool} (h : LeftRow B w n left) {k : Nat} (hk : k < n) : LeftRow B (w.setCell ⟨B, k, none⟩ (.bool true)) n (delC left k) := by
  refine (ValRow.set h hk (.bool true)).congr fun j hj => ?_
  show Value.bool (!(left j && j != k)) = if j = k then Value.bool true else Value.bool (!left j)
  by_cases e : j = k
  · subst e; simp
  · rw [if_neg e, show (j != k) = true by simp [e], Bool.and_true]
theorem LeftRow.back {B : Nat} {w : World} {n : Nat} {left : Nat → Bool} {k : Nat} (h : LeftRow B w n (delC left k)) (hk : k < n) (hl : left k = true) : LeftRow B (w.setCell ⟨B, k, none⟩ (.bool false)) n left := by
  refine (ValRow.set h hk (.bool false)).congr fun j hj => ?_
  show Value.bool (!left j) = if j = k then Value.bool false else Value.bool (!(left j && j != k))
  by_cases e : j = k
  · subst e; rw [if_pos rfl, hl]; rfl
  · rw [if_neg e, show (j != k) = true by simp [e], Bool.and_true]

def fOf (l : List (List Int)) (x : List Int) (row : Nat) (left : Nat → Bool) (k : Nat) : Int := x.getD k 0 + bestS (l.drop (row + 1)) (delC left k)
def gOf (l : List (List Int)) (row : Nat) (left : Nat → Bool) (k : Nat) : List Int := refOut (l.drop (row + 1)) (delC left k)

theorem ref_len {n : Nat} : ∀ {rows : List (List Int)} {left : Nat → Bool}, SqOk n rows → rows.length ≤ cntL left n → (refOut rows left).length = rows.length := by
  intro rows left h hc
  rw [← choose_ref h hc, choose_len h hc]

set_option maxHeartbeats 2000000 in
set_option maxRecDepth 100000 in
theorem best_any (l : List (List Int)) (hn : l.length ≤ 8) (hq : SqBd l.length l) : ∀ (d row : Nat) (left : Nat → Bool) (v : Value) (B : Nat) (w : World), row + d = l.length → d ≤ cntL left l.length → Rdv w (fun k => k = B) v l → LeftRow B w l.length left →
    Calls Tryd.prog 23 #[v, .int .i64 row, .slice (some ⟨B, 0, none⟩) l.length l.length] w fun e w' => ∃ r, e = .returned (.tuple #[.int .i64 (bestS (l.drop row) left), r]) ∧ Chg (fun k => k = B) w w' ∧ LeftRow B w' l.length left ∧ Rdv w' (Old w.heap.size) r (refOut (l.drop row) left)
  | 0, row, left, v, B, w, hr, _, h, hB => by
    obtain ⟨a, cap, rfl, h1, h2, h3⟩ := rdv_slice h
    unfold maxLen at h2
    have t1 : ((row : Int) == (l.length : Int)) = true := by simp; omega
    have e : l.drop row = [] := List.drop_eq_nil_of_le (by omega)
    have E := Lib.hid e
    clear e hr
    go_enter Tryd.func23, Tryd.ntmps23
    go_wp2_with fail
    go_ret2
    exact ⟨_, by rw [E.out]; rfl, Chg.refl _ _, hB, by rw [E.out]; exact rdv_nil _ _⟩
  | d + 1, row, left, v, B, w, hr, hcn, h, hB => by
    have hv := h
    obtain ⟨a, cap, rfl, h1, h2, h3⟩ := rdv_slice h
    unfold maxLen at h2
    have hrl : row < l.length := by omega
    have t1 : ((row : Int) == (l.length : Int)) = false := by simp; omega
    obtain ⟨x, hx⟩ : ∃ x, l[row]? = some x := ⟨l[row], by simp [hrl]⟩
    have hxl : x.length = l.length := (hq x (List.mem_of_getElem? hx)).1
    obtain ⟨b, off, xv, rfl, hbB, _, hcx, hxr⟩ := elems_row h3 hx
    obtain ⟨ax, capx, rfl, x1, x2, x3⟩ := rdv_slice hxr
    unfold maxLen at x2
    have HX := Lib.hid hx
    have HL := Lib.hid hxl
    have HD := Lib.hid (drop_eq hx)
    have HR := Lib.hid hr
    have HC := Lib.hid hcn
    have hBl := hB.lt
    clear hx hxl hr h h3 hxr hcn
    go_enter Tryd.func23, Tryd.ntmps23
    go_wp2_with fail
    go_loopw [8, 9, 10] (fun be o i wr => ∃ k : Nat, k ≤ l.length ∧ i = .int .i64 k ∧ be = .int .i64 (minGo (fOf l x row left) left k) ∧ Chg (fun k => k = B) w wr ∧ LeftRow B wr l.length left ∧ Rdv wr (Old w.heap.size) o (outGo (fOf l x row left) (gOf l row left) left k)) (fun _ _ i _ => l.length - (intOf i).toNat)
    case atStart => exact ⟨0, Nat.zero_le _, rfl, rfl, Chg.refl _ _, hB, rdv_nil _ _⟩
    case round =>
      obtain ⟨k, hk, rfl, rfl, hw, hBr, ho⟩ := hrel
      clear hB
      by_cases hlt : k < l.length
      · have d0 := ValRow.cell hBr hlt
        have d1 := ValRow.free hBr k
        cases hlk : left k with
        | false =>
          have HM : Hid (minGo (fOf l x row left) left (k + 1) = minGo (fOf l x row left) left k) := by rw [Hid, minGo, if_neg (by rw [hlk]; simp)]
          have HO : Hid (outGo (fOf l x row left) (gOf l row left) left (k + 1) = outGo (fOf l x row left) (gOf l row left) left k) := by rw [Hid, outGo, if_neg (by rw [hlk]; simp)]
          rw [hlk] at d0
          clear hlk
          go_wp2_with fail
          go_roundw
          case rel => exact ⟨k + 1, by omega, by go_num, by rw [HM.out], hw, hBr, by rw [HO.out]; exact ho⟩
          case measure => simp [intOf]; omega
        | true =>
          rw [hlk] at d0
          have hdel := cnt_del left hlk l.length hlt
          have HLK := Lib.hid hlk
          have hBt := LeftRow.take hBr hlt
          have hw1 : Chg (fun k => k = B) w (wr.setCell ⟨B, k, none⟩ (.bool true)) := hw.setCell (.inr rfl) _
          have hv1 := hv.keep hw1 (fun _ _ h => h) (fun _ _ h => h)
          have hd1 : d ≤ cntL (delC left k) l.length := by have := HC.out; omega
          have hih := best_any l hn hq d (row + 1) (delC left k) _ B _ (by have := HR.out; omega) hd1 hv1 hBt
          rw [show ((row + 1 : Nat) : Int) = (row : Int) + 1 by omega] at hih
          obtain ⟨y, hy⟩ : ∃ y, x[k]? = some y := ⟨x[k]'(by rw [HL.out]; exact hlt), by simp [HL.out ▸ hlt]⟩
          obtain ⟨b', off', rfl, hb'B, hcy, hyi⟩ := elems_ints x3 hy
          have hyb := (hq x (List.mem_of_getElem? HX.out)).2 y (List.mem_of_getElem? hy)
          have hyd : Hid (x.getD k 0 = y) := by rw [Hid, List.getD_eq_getElem?_getD, hy]; rfl
          have hkx : k < x.length := by rw [HL.out]; exact hlt
          have hbd := best_le (left := delC left k) (hq.drop (row + 1)) (by rw [List.length_drop]; have := HR.out; omega)
          rw [List.length_drop] at hbd
          obtain ⟨N, hN⟩ : ∃ N, bestS (l.drop (row + 1)) (delC left k) = N := ⟨_, rfl⟩
          rw [hN] at hih hbd
          obtain ⟨M, hM⟩ : ∃ M, minGo (fOf l x row left) left k = M := ⟨_, rfl⟩
          have HF : Hid (fOf l x row left k = N + y) := by unfold Hid fOf; rw [hyd.out, hN]; omega
          have HM := Lib.hid hM
          rw [hM]
          have hwrap : wrap64 (N + y) = N + y := by unfold wrap64; omega
          clear hy x3 hN hM hBr hv1
          go_wp2_with fail
          refine hih.mono ?_
          rintro e w2 ⟨r, rfl, hc2, hB2, hr2⟩
          have d2 := ValRow.cell hB2 hlt
          have d3 := ValRow.free hB2 k
          have hB3 := LeftRow.back hB2 hlt HLK.out
          have hc23 : Chg (fun k => k = B) (wr.setCell ⟨B, k, none⟩ (.bool true)) (w2.setCell ⟨B, k, none⟩ (.bool false)) := hc2.setCell (.inr rfl) _
          have hw3 : Chg (fun k => k = B) w (w2.setCell ⟨B, k, none⟩ (.bool false)) := hw1.trans hc23
          have hsz3 : (w2.setCell ⟨B, k, none⟩ (.bool false)).heap.size = w2.heap.size := by simp [World.setCell]
          have hsz1 : (wr.setCell ⟨B, k, none⟩ (.bool true)).heap.size = wr.heap.size := by simp [World.setCell]
          have hcx3 := hw3.cell hcx hbB
          have hcy3 := hw3.cell hcy hb'B
          have ho3 : Rdv (w2.setCell ⟨B, k, none⟩ (.bool false)) (Old w.heap.size) _ _ := ho.keep (((Chg.refl (fun k => k = B) wr).setCell (p := ⟨B, k, none⟩) (.inr rfl) (.bool true)).trans hc23) (fun q _ h => by subst h; exact hBl) (fun _ _ h => h)
          have hr3 : Rdv (w2.setCell ⟨B, k, none⟩ (.bool false)) (fun q => Old w.heap.size q ∨ w2.heap.size = q) r (refOut (l.drop (row + 1)) (delC left k)) := hr2.keep ((Chg.refl (fun k => k = B) w2).setCell (p := ⟨B, k, none⟩) (.inr rfl) (.bool false))
            (fun q _ h => by subst h; exact Nat.lt_of_lt_of_le hBl (by rw [hsz1]; exact hw.size))
            (fun q hq' h => by
              rcases h with h | h
              · exact Nat.lt_of_lt_of_le h (by rw [hsz1]; exact hw.size)
              · omega)
          clear hih hc2 hr2 hw1 hB2 ho hc23
          generalize hgen : w2.setCell ⟨B, k, none⟩ (.bool false) = w3 at hB3 hw3 hsz3 hcx3 hcy3 ho3 hr3
          replace hsz3 := Lib.hid hsz3
          by_cases better : M < 0 ∨ N + y < M
          · have HN : Hid (minGo (fOf l x row left) left (k + 1) = N + y) := by rw [Hid, minGo, HM.out, HF.out, if_pos ⟨HLK.out, better⟩]
            have HO : Hid (outGo (fOf l x row left) (gOf l row left) left (k + 1) = [(k : Int)] ++ refOut (l.drop (row + 1)) (delC left k)) := by
              rw [Hid, outGo, HM.out, HF.out, if_pos ⟨HLK.out, better⟩]; rfl
            have hlen : (refOut (l.drop (row + 1)) (delC left k)).length ≤ 8 := by
              rw [ref_len (n := l.length) (fun r hr => hq.ok r (List.mem_of_mem_drop hr)) (by rw [List.length_drop]; have := HR.out; omega), List.length_drop]; omega
            by_cases m0 : M < 0
            · clear better
              go_wp2_with (at_builtin; refine wpList_many2 (by rfl) _ _ 37 (by rfl) elemOk_ints (O := Old w.heap.size) (v := .slice (some ⟨w3.heap.size, 0, none⟩) 1 1) (l := [(k : Int)]) (m := refOut (l.drop (row + 1)) (delC left k)) (by rfl) (by rfl) ?hown ?hu ?hO ?hlen ?_)
              case hown => exact own_one (by rw [heap_alloc_new]) (fun h => absurd (Nat.lt_of_lt_of_le h hw3.size) (Nat.lt_irrefl _)) (by unfold I64; omega)
              case hu => exact hr3.keep ((Chg.refl Never w3).alloc _) (fun _ _ h => h.elim) (fun q _ h => by
                rcases h with h | h
                · exact .inl h
                · simp only [Value.ownBlock, Option.some.injEq] at h
                  exact .inr (hsz3.out.symm.trans h))
              case hO => exact fun q h => by have := hw3.size; unfold Old at h; simp; omega
              case hlen =>
                show 1 + _ ≤ _
                omega
              intro v' w4 hown4 hc4 _
              have hw4 : Chg (fun k => k = B) w w4 := (hw3.alloc _).trans' hc4 (fun q hq' h => by
                unfold OwnB at h
                simp only [Value.ownBlock, Option.some.injEq] at h
                subst h
                exact absurd (Nat.lt_of_lt_of_le hq' hw3.size) (Nat.lt_irrefl _))
              have hB4 : LeftRow B w4 l.length left := ValRow.keep (ValRow.keep hB3 ((Chg.refl Never w3).alloc _) (fun h => h)) hc4 (fun h => by
                unfold OwnB at h
                simp only [Value.ownBlock, Option.some.injEq] at h
                have := ValRow.lt hB3
                omega)
              have ho4 := hown4.rdv
              clear hc4 hown4 hr3 ho3 hB3 hw3 hcx3 hcy3 d2 d3 hgen
              go_wp2_with fail
              go_roundw
              case rel => exact ⟨k + 1, by omega, by go_num, by rw [HN.out], hw4, hB4, by rw [HO.out]; exact ho4⟩
              case measure => simp [intOf]; omega
            · have m1 : N + y < M := by omega
              clear better
              go_wp2_with (at_builtin; refine wpList_many2 (by rfl) _ _ 37 (by rfl) elemOk_ints (O := Old w.heap.size) (v := .slice (some ⟨w3.heap.size, 0, none⟩) 1 1) (l := [(k : Int)]) (m := refOut (l.drop (row + 1)) (delC left k)) (by rfl) (by rfl) ?hown ?hu ?hO ?hlen ?_)
              case hown => exact own_one (by rw [heap_alloc_new]) (fun h => absurd (Nat.lt_of_lt_of_le h hw3.size) (Nat.lt_irrefl _)) (by unfold I64; omega)
              case hu => exact hr3.keep ((Chg.refl Never w3).alloc _) (fun _ _ h => h.elim) (fun q _ h => by
                rcases h with h | h
                · exact .inl h
                · simp only [Value.ownBlock, Option.some.injEq] at h
                  exact .inr (hsz3.out.symm.trans h))
              case hO => exact fun q h => by have := hw3.size; unfold Old at h; simp; omega
              case hlen =>
                show 1 + _ ≤ _
                omega
              intro v' w4 hown4 hc4 _
              have hw4 : Chg (fun k => k = B) w w4 := (hw3.alloc _).trans' hc4 (fun q hq' h => by
                unfold OwnB at h
                simp only [Value.ownBlock, Option.some.injEq] at h
                subst h
                exact absurd (Nat.lt_of_lt_of_le hq' hw3.size) (Nat.lt_irrefl _))
              have hB4 : LeftRow B w4 l.length left := ValRow.keep (ValRow.keep hB3 ((Chg.refl Never w3).alloc _) (fun h => h)) hc4 (fun h => by
                unfold OwnB at h
                simp only [Value.ownBlock, Option.some.injEq] at h
                have := ValRow.lt hB3
                omega)
              have ho4 := hown4.rdv
              clear hc4 hown4 hr3 ho3 hB3 hw3 hcx3 hcy3 d2 d3 hgen
              go_wp2_with fail
              go_roundw
              case rel => exact ⟨k + 1, by omega, by go_num, by rw [HN.out], hw4, hB4, by rw [HO.out]; exact ho4⟩
              case measure => simp [intOf]; omega
          · have m0 : ¬ M < 0 := fun q => better (.inl q)
            have m1 : ¬ N + y < M := fun q => better (.inr q)
            have HN : Hid (minGo (fOf l x row left) left (k + 1) = M) := by
              rw [Hid, minGo, HM.out, HF.out, if_neg]
              rintro ⟨_, q⟩
              exact better q
            have HO : Hid (outGo (fOf l x row left) (gOf l row left) left (k + 1) = outGo (fOf l x row left) (gOf l row left) left k) := by
              rw [Hid, outGo, HM.out, HF.out, if_neg]
              rintro ⟨_, q⟩
              exact better q
            clear better
            go_wp2_with fail
            go_roundw
            case rel => exact ⟨k + 1, by omega, by go_num, by rw [HN.out], hw3, hB3, by rw [HO.out]; exact ho3⟩
            case measure => simp [intOf]; omega
      · obtain rfl : k = l.length := by omega
        have HV : Hid (bestS (l.drop row) left = minGo (fOf l x row left) left l.length) := by rw [Hid, HD.out, bestS, HL.out]; rfl
        have HW : Hid (refOut (l.drop row) left = outGo (fOf l x row left) (gOf l row left) left l.length) := by rw [Hid, HD.out, refOut, HL.out]; rfl
        go_wp2_with fail
        go_ret2
        exact ⟨_, by rw [HV.out]; rfl, hw, hBr, by rw [HW.out]; exact ho⟩
end Go.Proofs.YtcgjegjnodopoaaDoor
