/-
  PARTS: THE WALK of algebra.Split: a patch in pieces.; WHAT WAS DONE LEADS FROM A TREE TO A TREE, in plain Lean.; THE PIECES OF A PATCH, ONE BEHIND THE OTHER, LEAD WHERE IT LEADS, in plain Lean.; THE WALK of patch.done: what a change does to what a path reads.; THE WALKS of tree.Find (a binary search).; A BOX OF TWO CELLS, and of three (Blk3: XTurn). No program in sight.; THE WALKS of tree.Copy, and of slices.Concat of files.; WHAT THE DOCUMENT'S WAY BETWEEN TWO TREES NEEDS, in plain Lean: places and lookups, the merged list's length, what Make answers of valid lines.; THE WALK of patch.Apply.
-/
import Derived.Test.YtibeddcebefbjaaDoorPackAs6
import Derived.Test.YtibeddcebefbjaaDoorPackAs7
import Derived.Test.YtibeddcebefbjaaDoorPackAs4
import Derived.BigQuiet
import Derived.Test.YtibeddcebefbjaaDoorPackAs5
import Derived.Test.YtibeddcebefbjaaDoorPackAs2
namespace Go.Proofs.YtibeddcebefbjaaDoor
open Go.RowKit

def pieceOf (k : Int) (p : ByteArray) (h : Hunk) : List Change := [⟨k, p, [⟨h.new, h.new, h.marks⟩]⟩]
def piecesC (c : Change) : List (List Change) := if c.hunks = [] then [[c]] else c.hunks.map (pieceOf c.what c.path)
def pieces (p : List Change) : List (List Change) := p.flatMap piecesC
def pcF (e : List Change) : Int := (patchFault e).2
def splitPF (p : List Change) : Int := if (patchFault p).2 ≠ 0 then (patchFault p).2 else firstOf pcF (pieces p)
def splitPR (p : List Change) : List (List Change) := if splitPF p = 0 then pieces p else []
theorem pieces_take {p : List Change} {k : Nat} {c : Change} (h : p[k]? = some c) : pieces (p.take (k + 1)) = pieces (p.take k) ++ piecesC c := by
  unfold pieces
  rw [List.take_add_one, h, List.flatMap_append]; simp
theorem first_app {α : Type} (f : α → Int) : ∀ (a b : List α), firstOf f (a ++ b) = if firstOf f a = 0 then firstOf f b else firstOf f a
  | [], b => by simp [firstOf]
  | x :: a, b => by
    rw [List.cons_append, firstOf, firstOf]
    by_cases h : f x = 0
    · rw [if_pos h, if_pos h, first_app f a b]
    · rw [if_neg h, if_neg h, if_neg h]
theorem first_one {α : Type} (f : α → Int) (x : α) : firstOf f [x] = f x := by
  unfold firstOf
  split
  · rename_i h; rw [h]; rfl
  · rfl
theorem pcF_ok {c : Change} (h : changeFault c = 0) : pcF [c] = 0 := by
  unfold pcF
  rw [patch_ok ⟨by simp, fun d hd => by rw [List.mem_singleton.1 hd]; exact h, List.pairwise_singleton _ _⟩]
theorem pieces_split {p : List Change} {k : Nat} {c : Change} (h : p[k]? = some c) : pieces p = pieces (p.take k) ++ piecesC c ++ pieces (p.drop (k + 1)) := by
  have e : p = p.take k ++ c :: p.drop (k + 1) := by
    have := drop_eq h
    rw [← this, List.take_append_drop]
  unfold pieces
  conv => lhs; rw [e]
  rw [List.flatMap_append, List.flatMap_cons, List.append_assoc]
theorem split_bad {p : List Change} {k j : Nat} {c : Change} {h : Hunk} (hp : (patchFault p).2 = 0) (hc : p[k]? = some c) (hh : c.hunks[j]? = some h) (h0 : firstOf pcF (pieces (p.take k)) = 0) (h1 : firstOf pcF ((c.hunks.take j).map (pieceOf c.what c.path)) = 0) (h2 : pcF (pieceOf c.what c.path h) ≠ 0) :
    splitPF p = pcF (pieceOf c.what c.path h) := by
  have hne : c.hunks ≠ [] := fun e => by rw [e] at hh; simp at hh
  have e2 : piecesC c = (c.hunks.take j).map (pieceOf c.what c.path) ++ (pieceOf c.what c.path h :: (c.hunks.drop (j + 1)).map (pieceOf c.what c.path)) := by
    unfold piecesC
    rw [if_neg hne, ← List.map_cons, ← List.map_append, ← drop_eq hh, List.take_append_drop]
  unfold splitPF
  rw [if_neg (by rw [hp]; decide), pieces_split hc, List.append_assoc, first_app, if_pos h0, e2, List.append_assoc, first_app, if_pos h1, List.cons_append, firstOf, if_neg h2]
theorem elemOk_changes : ElemOk Tryd.prog 67 51 1 := elemOk_of Tryd.underlying67 (z := .slice none 0 0) (b := 24) (by kernel_rfl) rfl (by decide)
theorem pieces_len : ∀ (p : List Change), (∀ c ∈ p, c.hunks.length ≤ 60) → (pieces p).length ≤ 61 * p.length
  | [], _ => Nat.zero_le _
  | c :: r, h => by
    have h1 := pieces_len r (fun d hd => h d (List.mem_cons_of_mem _ hd))
    have h2 := h c (List.mem_cons_self ..)
    have e : (piecesC c).length ≤ 61 := by
      unfold piecesC
      split
      · simp
      · rw [List.length_map]; omega
    show (piecesC c ++ pieces r).length ≤ _
    rw [List.length_append, List.length_cons]; omega
theorem chg_four (w : World) (B : Nat) (a b c d : Value) : Chg (fun j => j = B) w ((((w.setCell ⟨B, 0, none⟩ a).setCell ⟨B, 1, none⟩ b).setCell ⟨B, 2, none⟩ c).setCell ⟨B, 0, none⟩ d) :=
  ((((Chg.refl (fun j => j = B) w).setCell (p := ⟨B, 0, none⟩) (.inr rfl) a).setCell (p := ⟨B, 1, none⟩) (.inr rfl) b).setCell (p := ⟨B, 2, none⟩) (.inr rfl) c).setCell (p := ⟨B, 0, none⟩) (.inr rfl) d
theorem one_piece {w3 W6 : World} {B S : Nat} {h : Hunk} {k : Int} {pt : ByteArray} {x y z r : Value} (hB : Blk3 w3 B 24 x y z) (hr3 : Rdv w3 (Old (S + 1)) r h.marks) (hS : S = B) (hlt : S < w3.heap.size) (hpc : pt.size ≤ maxLen)
    (hW : W6 = (((((w3.setCell ⟨B, 0, none⟩ (.int .i64 h.old)).setCell ⟨B, 1, none⟩ (.int .i64 h.new)).setCell ⟨B, 2, none⟩ r).setCell ⟨B, 0, none⟩ (.int .i64 h.new)).alloc (.cells #[.int .i64 h.new, .int .i64 h.new, r] 24)).alloc (.cells #[.int .i64 k, .string pt, .slice (some ⟨w3.heap.size, 0, none⟩) 1 1] 60)) :
    Chg (fun j => j = B) w3 W6 ∧ Rdv W6 (Old S) (.slice (some ⟨w3.heap.size + 1, 0, none⟩) 1 1) (pieceOf k pt h) := by
  have hc := chg_four w3 B (.int .i64 h.old) (.int .i64 h.new) r (.int .i64 h.new)
  have hsz : ((((w3.setCell ⟨B, 0, none⟩ (.int .i64 h.old)).setCell ⟨B, 1, none⟩ (.int .i64 h.new)).setCell ⟨B, 2, none⟩ r).setCell ⟨B, 0, none⟩ (.int .i64 h.new)).heap.size = w3.heap.size := by simp
  generalize (((w3.setCell ⟨B, 0, none⟩ (.int .i64 h.old)).setCell ⟨B, 1, none⟩ (.int .i64 h.new)).setCell ⟨B, 2, none⟩ r).setCell ⟨B, 0, none⟩ (.int .i64 h.new) = W4 at hc hsz hW
  have hr4 : Rdv W4 (Old S) r h.marks := hr3.keep hc (fun j _ hj => by unfold Old; omega) (fun j _ hj => by unfold Old at *; omega)
  have hh5 := rdv_hunkO (t := 24) (x := ⟨h.new, h.new, h.marks⟩) hr4 (by rw [hsz]; unfold Old; omega)
  have hs5 : (W4.alloc (.cells #[.int .i64 h.new, .int .i64 h.new, r] 24)).heap.size = w3.heap.size + 1 := by rw [World.size_alloc, hsz]
  have hA5 : Chg Never W4 (W4.alloc (.cells #[.int .i64 h.new, .int .i64 h.new, r] 24)) := (Chg.refl Never W4).alloc _
  rw [hsz] at hh5
  simp only at hh5
  generalize W4.alloc (.cells #[.int .i64 h.new, .int .i64 h.new, r] 24) = W5 at hh5 hs5 hA5 hW
  have hn := heap_alloc_new W5 (.cells #[.int .i64 k, .string pt, .slice (some ⟨w3.heap.size, 0, none⟩) 1 1] 60)
  have hA6 : Chg Never W5 (W5.alloc (.cells #[.int .i64 k, .string pt, .slice (some ⟨w3.heap.size, 0, none⟩) 1 1] 60)) := (Chg.refl Never W5).alloc _
  rw [← hW] at hn hA6
  rw [hs5] at hn
  exact ⟨(hc.trans (hA5.mono (fun _ _ h => h.elim))).trans (hA6.mono (fun _ _ h => h.elim)), rdv_at (cs := [.int .i64 k, .string pt, .slice (some ⟨w3.heap.size, 0, none⟩) 1 1]) hn (by unfold Old; omega) ⟨_, rfl, hpc, hh5.never hA6⟩⟩
set_option maxHeartbeats 4000000 in
set_option maxRecDepth 100000 in
theorem split_any (p : List Change) (vp : Value) (w : World) (hp : Rdv w Never vp p) (m : Int) (hm : w.cell? ⟨1, 0, none⟩ = some (.int .i64 m)) :
    Calls Tryd.prog 28 #[vp] w fun e w' => ∃ r, e = .returned (.tuple #[r, errV (splitPF p)]) ∧ Chg Never w w' ∧ Rdv w' Never r (splitPR p) := by
  obtain ⟨pa, pcap, rfl, p1, p2, p3⟩ := rdv_slice hp
  unfold maxLen at p2
  by_cases y : (patchFault p).2 = 0
  · have Y := Lib.hid y
    have pl := (patch_of y).1
    have PV : Hid (∀ c ∈ p, changeFault c = 0) := (patch_of y).2.1
    have PL : Hid (∀ c ∈ p, c.hunks.length ≤ 60) := fun c hc => (hunksFault_zero (by rw [(changeFault_zero (PV.out c hc)).2.2.2.1])).1
    clear y
    go_enter Tryd.func28, Tryd.ntmps28
    go_wp2_with fail
    refine (patch_check_any p _ _ hp m hm).mono ?_
    rintro e w1 ⟨rfl, hw⟩
    rw [Y.out, errV_zero]
    have hn0 := ownN_nil (α := List Change) 51 hw
    go_wp2_with fail
    go_loopw [6, 24] (fun o i wr => ∃ k : Nat, k ≤ p.length ∧ i = .int .i64 k ∧ OwnN 51 w wr o (pieces (p.take k)) ∧ Hid (firstOf pcF (pieces (p.take k)) = 0)) (fun _ i _ => p.length - (intOf i).toNat)
    case atStart => exact ⟨0, Nat.zero_le _, rfl, hn0, rfl⟩
    case round =>
      clear hn0 hw
      rename World => wr
      obtain ⟨k, hk, rfl, hn, HF⟩ := hrel
      obtain ⟨oa, on, oc, rfl⟩ := own_isSlice hn.own
      by_cases hlt : k < p.length
      · obtain ⟨c, hx⟩ : ∃ c, p[k]? = some c := ⟨p[k], by simp [hlt]⟩
        obtain ⟨pb, po, hv, hpo, _, _, c0, c1, c2, hpc, hhv⟩ := elems_change p3 hx
        subst hpo
        obtain ⟨ha, hcap, rfl, hh1, hh2, hh3⟩ := rdv_slice hhv
        unfold maxLen at hh2
        have c0 := hn.chg.cellNever c0
        have c1 := hn.chg.cellNever c1
        have c2 := hn.chg.cellNever c2
        have HT := Lib.hid (pieces_take hx)
        have HX := Lib.hid hx
        have HCV : Hid (changeFault c = 0) := PV.out c (List.mem_of_getElem? hx)
        have hcl : c.hunks.length ≤ 60 := PL.out c (List.mem_of_getElem? hx)
        have hpl : (pieces (p.take k)).length ≤ 61 * 16 := by
          have := pieces_len (p.take k) (fun d hd => PL.out d (List.mem_of_mem_take hd))
          rw [List.length_take] at this
          omega
        obtain ⟨hA, d0, d1, d2⟩ := box1_change wr 60 c.what c.path (.slice ha c.hunks.length hcap) _ rfl
        clear hx p3
        by_cases h0 : c.hunks = []
        · have HP : Hid (piecesC c = [c]  :: []) := if_pos h0
          have hlen : (pieces (p.take k)).length ≤ 1000000000 := by omega
          obtain ⟨wh, pt, hs⟩ := c
          simp only at h0
          subst h0
          simp only at d0 d1 d2 c0 c1 c2 hhv hpc hA HP
          have hnA := hn.never hA
          have hltO := own_block_lt hn.own
          have hA1 : Chg Never (wr.alloc (.cells #[.int .i64 wh, .string pt, .slice ha ([] : List Hunk).length hcap] 60)) ((wr.alloc (.cells #[.int .i64 wh, .string pt, .slice ha ([] : List Hunk).length hcap] 60)).alloc (.cells #[.int .i64 wh, .string pt, .slice ha ([] : List Hunk).length hcap] 60)) := (Chg.refl Never _).alloc _
          have hnew := heap_alloc_new (wr.alloc (.cells #[.int .i64 wh, .string pt, .slice ha ([] : List Hunk).length hcap] 60)) (.cells #[.int .i64 wh, .string pt, .slice ha ([] : List Hunk).length hcap] 60)
          rw [World.size_alloc] at hnew
          have hn1 := hnA.never hA1
          have hy1 : Rdv _ (fun q => Never q ∨ (Value.slice oa on oc).ownBlock = some q) (.slice (some ⟨wr.heap.size + 1, 0, none⟩) 1 1) [(⟨wh, pt, []⟩ : Change)] := rdv_at (cs := [.int .i64 wh, .string pt, .slice ha ([] : List Hunk).length hcap]) hnew (fun h => h.elim (fun h => h) (fun h => by have := hltO _ h; omega)) ⟨_, rfl, hpc, (hn.away hhv).never (hA.trans hA1)⟩
          have hyo : Dat.rd _ (fun q => Never q ∨ (Value.slice oa on oc).ownBlock = some q) [.slice (some ⟨wr.heap.size + 1, 0, none⟩) 1 1] [(⟨wh, pt, []⟩ : Change)] := hy1
          go_wp2_with (at_builtin; refine wpList_push (by rfl) _ _ 67 (by rfl) elemOk_changes (O := Never) (l := pieces (p.take k)) (y := [(⟨wh, pt, []⟩ : Change)]) (by rfl) (by rfl) (by simp) hn1.own hyo (fun _ h => h.elim) hlen ?_; intro v' w9 hown2 hc2 hk2; have hn9 := hn1.step1 hown2 hc2 hk2; have d2' := hc2.cell (hA1.cellNever d2) (fun h => absurd (hltO _ h) (Nat.lt_irrefl _)); clear hown2 hc2 hk2 hn1 hyo hy1 hnew d0 d1 d2 hA1 hA; obtain ⟨ya, yn, yc, rfl⟩ := own_isSlice hn9.own)
          go_loopw [6, 40] (fun o i wz => i = .int .i64 0 ∧ OwnN 51 w wz o (pieces (p.take k) ++ [[(⟨wh, pt, []⟩ : Change)]])) (fun _ _ _ => 0)
          case atStart => exact ⟨rfl, hn9⟩
          case round =>
            clear hn9 d2'
            rename World => wz
            obtain ⟨rfl, hnz⟩ := hrel
            obtain ⟨za, zn, zc, rfl⟩ := own_isSlice hnz.own
            go_wp2_with fail
            go_roundw
            case rel => exact ⟨k + 1, by omega, by go_num, by rw [HT.out, HP.out]; exact hnz, by rw [Hid, HT.out, HP.out, first_app, if_pos HF.out, first_one]; exact pcF_ok HCV.out⟩
            case measure => simp [intOf] <;> omega
        · have h0' : ((c.hunks.length : Int) == 0) = false := beq_eq_false_iff_ne.2 (by have := List.length_pos_iff.2 h0; omega)
          have HP : Hid (piecesC c = c.hunks.map (pieceOf c.what c.path)) := if_neg h0
          clear h0
          have D0 := hA.trans (Chg.refl Never _)
          go_wp2_with fail
          generalize wr.alloc (.cells #[.int .i64 c.what, .string c.path, .slice ha c.hunks.length hcap] 60) = wA at hA d0 d1 d2 ⊢
          have hnA := hn.never hA
          have hhA := hhv.never hn.chg
          clear c0 c1 c2 D0
          have hob0 : ∀ b, (Value.slice oa on oc).ownBlock = some b → b ≠ wr.heap.size := fun b hb => Nat.ne_of_lt (own_block_lt hn.own b hb)
          have hbl0 : wr.heap.size < wA.heap.size := World.block_lt_of_cell? wA _ d0
          generalize wr.heap.size = B1 at hob0 hbl0 d0 d1 d2 ⊢
          clear hn hA
          go_wp2_with fail
          clear d2
          go_loopw [6, 40] (fun o i wz => ∃ j : Nat, j ≤ c.hunks.length ∧ i = .int .i64 j ∧ OwnN 51 w wz o (pieces (p.take k) ++ (c.hunks.take j).map (pieceOf c.what c.path)) ∧ Hid (firstOf pcF ((c.hunks.take j).map (pieceOf c.what c.path)) = 0) ∧ wz.cell? ⟨B1, 0, none⟩ = some (.int .i64 c.what) ∧ wz.cell? ⟨B1, 1, none⟩ = some (.string c.path) ∧ (∀ b, o.ownBlock = some b → b ≠ B1) ∧ B1 < wz.heap.size) (fun _ i _ => c.hunks.length - (intOf i).toNat)
          case atStart => exact ⟨0, Nat.zero_le _, rfl, by rw [List.take_zero, List.map_nil, List.append_nil]; exact hnA, rfl, d0, d1, hob0, hbl0⟩
          case round =>
            clear d0 d1 hob0 hbl0 hnA
            rename World => wz
            obtain ⟨j, hj, rfl, hnz, HFj, e0, e1, hob, hbl⟩ := hrel
            obtain ⟨za, zn, zc, rfl⟩ := own_isSlice hnz.own
            by_cases hjl : j < c.hunks.length
            · obtain ⟨h, hhx⟩ : ∃ h, c.hunks[j]? = some h := ⟨c.hunks[j], by simp [hjl]⟩
              obtain ⟨hb, ho, mv, hha, _, _, g0, g1, g2, hmv⟩ := elems_hunk hh3 hhx
              subst hha
              have g0 := hnz.chg.cellNever g0
              have g1 := hnz.chg.cellNever g1
              have g2 := hnz.chg.cellNever g2
              have hml : h.marks.length ≤ 120 := scriptFault_len (hOk_mem _ _ _ (hunksFault_zero (by rw [(changeFault_zero HCV.out).2.2.2.1])).2 h (List.mem_of_getElem? hhx))
              have HHX := Lib.hid hhx
              have hmz := hmv.never hnz.chg
              obtain ⟨ma, mc, rfl, _, _, _⟩ := rdv_slice hmz
              have hB2 := Blk3.new wz 24 (.int .i64 h.old) (.int .i64 h.new) (.slice ma h.marks.length mc)
              have hA2 : Chg Never wz (wz.alloc (.cells #[.int .i64 h.old, .int .i64 h.new, .slice ma h.marks.length mc] 24)) := (Chg.refl Never wz).alloc _
              have hs2 : (wz.alloc (.cells #[.int .i64 h.old, .int .i64 h.new, .slice ma h.marks.length mc] 24)).heap.size = wz.heap.size + 1 := World.size_alloc _ _
              obtain ⟨q0, q1, q2⟩ := hB2.cell
              clear hhx hmv
              go_wp2_with fail
              generalize wz.alloc (.cells #[.int .i64 h.old, .int .i64 h.new, .slice ma h.marks.length mc] 24) = wY at hB2 hA2 hs2 q0 q1 q2 ⊢
              clear g0 g1 g2
              refine (copy_any h _ _ (hmz.never hA2) hml).mono ?_
              rintro e w3 ⟨r3, rfl, hc3, hr3⟩
              obtain ⟨ra, rc, rfl, _, _, _⟩ := rdv_slice hr3
              rw [hs2] at hr3
              have hB3 := hB2.keep hc3 (fun h => h)
              have hlt3 : wz.heap.size < w3.heap.size := by have := hc3.size; omega
              have e0 := (hA2.trans hc3).cellNever e0
              have e1 := (hA2.trans hc3).cellNever e1
              clear q0 q1 q2
              obtain ⟨q0, q1, q2⟩ := hB3.cell
              have qf := hB3.free
              have qf0 := qf 0
              have qf1 := qf 1
              have qf2 := qf 2
              obtain ⟨W6, hW6⟩ : ∃ W6, W6 = (((((w3.setCell ⟨wz.heap.size, 0, none⟩ (.int .i64 h.old)).setCell ⟨wz.heap.size, 1, none⟩ (.int .i64 h.new)).setCell ⟨wz.heap.size, 2, none⟩ (.slice ra h.marks.length rc)).setCell ⟨wz.heap.size, 0, none⟩ (.int .i64 h.new)).alloc (.cells #[.int .i64 h.new, .int .i64 h.new, .slice ra h.marks.length rc] 24)).alloc (.cells #[.int .i64 c.what, .string c.path, .slice (some ⟨w3.heap.size, 0, none⟩) 1 1] 60) := ⟨_, rfl⟩
              obtain ⟨hc6, hone⟩ := one_piece (k := c.what) hB3 hr3 rfl hlt3 hpc hW6
              have hB1z : B1 ≠ wz.heap.size := by omega
              have HW6 := Lib.hid hW6
              clear hW6
              go_wp2_with fail
              rw [← HW6.out]
              have hZ6 : Chg Never wz W6 := (hA2.trans hc3).trans' hc6 (fun i hi h => by omega)
              have e0 := hc6.cell e0 hB1z
              have e1 := hc6.cell e1 hB1z
              clear HW6 hB3 hB2 hr3 hc3 hA2 q0 q1 q2 qf qf0 qf1 qf2
              refine (patch_check_any (pieceOf c.what c.path h) _ _ (hone.sub (fun _ _ h => h.elim)) m ((hnz.chg.trans hZ6).cellNever hm)).mono ?_
              rintro e w7 ⟨rfl, hc7⟩
              have hZ7 := hZ6.trans hc7
              have e0 := hc7.cellNever e0
              have e1 := hc7.cellNever e1
              have hone := hnz.fresh (hone.never hc7)
              have hn7 := hnz.never hZ7
              have hz7 := hZ7.size
              clear hc6 hZ6 hc7
              by_cases zz : (patchFault (pieceOf c.what c.path h)).2 = 0
              · have HZ := Lib.hid zz
                have HL : Hid ((c.hunks.take (j + 1)).map (pieceOf c.what c.path) = (c.hunks.take j).map (pieceOf c.what c.path) ++ [pieceOf c.what c.path h]) := by rw [Hid, List.take_add_one, HHX.out]; simp
                have hlen : (pieces (p.take k) ++ (c.hunks.take j).map (pieceOf c.what c.path)).length ≤ 1000000000 := by rw [List.length_append, List.length_map, List.length_take]; omega
                rw [zz, errV_zero]
                clear zz
                have hyo : Dat.rd w7 (fun k => Never k ∨ (Value.slice za zn zc).ownBlock = some k) [.slice (some ⟨w3.heap.size + 1, 0, none⟩) 1 1] (pieceOf c.what c.path h) := hone
                go_wp2_with (at_builtin; refine wpList_push (by rfl) _ _ 67 (by rfl) elemOk_changes (O := Never) (l := pieces (p.take k) ++ (c.hunks.take j).map (pieceOf c.what c.path)) (y := pieceOf c.what c.path h) (by rfl) (by rfl) (by rfl) hn7.own hyo (fun _ h => h.elim) hlen ?_; intro v' w9 hown2 hc2 hk2; have hn9 := hn7.step1 hown2 hc2 hk2; have e0' := hc2.cell e0 (fun h => hob _ h rfl); have e1' := hc2.cell e1 (fun h => hob _ h rfl); have hs9 := hc2.size; clear hown2 hc2 hn7 hyo hone e0 e1; obtain ⟨ya, yn, yc, rfl⟩ := own_isSlice hn9.own)
                go_roundw
                case rel =>
                  refine ⟨j + 1, by omega, by go_num, by rw [HL.out, ← List.append_assoc]; exact hn9, by rw [Hid, HL.out, first_app, if_pos HFj.out, first_one]; exact HZ.out, e0', e1', fun b hb => ?_, by omega⟩
                  obtain ⟨q, hq, hq2⟩ := hk2
                  rw [hq] at hb
                  injection hb with hb
                  subst hb
                  exact hq2.elim (fun h => hob _ h) (fun h => by omega)
                case measure => simp [intOf] <;> omega
              · have HS := Lib.hid (split_bad Y.out HX.out HHX.out HF.out HFj.out zz)
                have HR : Hid (splitPR p = []) := if_neg (by rw [HS.out]; exact zz)
                have hcf := hn7.chg
                rw [errV_pos zz]
                have ZZ := Lib.hid zz
                clear zz hone hn7 e0 e1
                go_wp2_with fail
                go_ret2
                exact ⟨.slice none 0 0, by rw [HS.out]; unfold pcF; rw [errV_pos ZZ.out]; rfl, hcf, by rw [HR.out]; exact rdv_nil _ _⟩
            · obtain rfl : j = c.hunks.length := by omega
              rw [List.take_length] at hnz HFj
              go_wp2_with fail
              go_roundw
              case rel => exact ⟨k + 1, by omega, by go_num, by rw [HT.out, HP.out]; exact hnz, by rw [Hid, HT.out, HP.out, first_app, if_pos HF.out]; exact HFj.out⟩
              case measure => simp [intOf] <;> omega
      · obtain rfl : k = p.length := by omega
        rw [List.take_length] at hn HF
        have HS : Hid (splitPF p = 0) := by unfold Hid splitPF; rw [if_neg (by rw [Y.out]; decide)]; exact HF.out
        have HR : Hid (splitPR p = pieces p) := if_pos HS.out
        go_wp2_with fail
        go_ret2
        exact ⟨_, by rw [HS.out]; rfl, hn.chg, by rw [HR.out]; exact hn.own.rdv.sub (fun _ _ h => h.elim)⟩
  · have HS : Hid (splitPF p = (patchFault p).2) := if_pos y
    have HR : Hid (splitPR p = []) := if_neg (by rw [HS.out]; exact y)
    have Y := Lib.hid y
    clear y
    go_enter Tryd.func28, Tryd.ntmps28
    go_wp2_with fail
    refine (patch_check_any p _ _ hp m hm).mono ?_
    rintro e w1 ⟨rfl, hw⟩
    rw [errV_pos Y.out]
    go_wp2_with fail
    go_ret2
    exact ⟨.slice none 0 0, by rw [HS.out, errV_pos Y.out]; rfl, hw, by rw [HR.out]; exact rdv_nil _ _⟩
end Go.Proofs.YtibeddcebefbjaaDoor
namespace Go.Proofs.YtibeddcebefbjaaDoor

/-- what was done leads from a tree to a tree -/
theorem apply_tree {t : List File} {p : List Change} (h : (applyR t p).2.2 = 0) : Tree t ∧ Tree (applyR t p).1 := by
  obtain ⟨_, h1, h2, h3, h4, h5⟩ := applyR_inv (t := t) (p := p) (b := (applyR t p).1) (k := (applyR t p).2.1) (Prod.ext rfl (Prod.ext rfl h))
  exact ⟨h1, leads_tree h1 h2 h3 h4 h5⟩
end Go.Proofs.YtibeddcebefbjaaDoor
namespace Go.Proofs.YtibeddcebefbjaaDoor

/-- piece by piece: each is done, or there is no room -/
def Good : List File → List (List Change) → List File → Prop
  | x, [], b => x = b
  | x, e :: r, b => (applyR x e).2.2 = 3 ∨ ((applyR x e).2.2 = 0 ∧ Good (applyR x e).1 r b)

theorem tree_read {a : List File} (ha : Tree a) {p : ByteArray} {l : List ByteArray} (h : look a p = some l) : linesFault l = 0 := by
  obtain ⟨x, hx, rfl, rfl⟩ := look_some h
  exact (fileFault_zero (ha.2.1 x hx)).2
theorem apply_one {x : List File} {c : Change} (hx : Tree x) (hc : changeFault c = 0) : applyR x [c] = if (stepOf (look x c.path) c).2 ≠ 0 then ([], 0, (stepOf (look x c.path) c).2) else if 8 < (setAt x c.path (stepOf (look x c.path) c).1).length then ([], 0, 3) else (setAt x c.path (stepOf (look x c.path) c).1, 0, 0) := by
  unfold applyR
  have hp : (patchFault [c]).2 = 0 := pcF_ok hc
  rw [if_neg (by rw [tree_iff.1 hx]; decide), if_neg (by rw [hp]; decide), applyGo]
  by_cases h : (stepOf (look x c.path) c).2 ≠ 0
  · rw [if_pos h, if_pos h, if_pos h]
  · rw [if_neg h, if_neg h, applyGo, if_neg (fun h => h rfl)]
theorem go_one {T b : List File} {c : Change} {r : List Change} {R : List (List Change)} {i k : Nat} (hT : Tree T) (hc : changeFault c = 0) (h : applyGo i T (c :: r) = (b, k, 0))
    (cont : Tree (setAt T c.path (stepOf (look T c.path) c).1) → applyGo (i + 1) (setAt T c.path (stepOf (look T c.path) c).1) r = (b, k, 0) → Good (setAt T c.path (stepOf (look T c.path) c).1) R b) : Good T ([c] :: R) b := by
  rw [applyGo] at h
  by_cases e : (stepOf (look T c.path) c).2 ≠ 0
  · rw [if_pos e] at h
    injection h with _ h
    injection h with _ h
    exact absurd h e
  · rw [if_neg e] at h
    have ha := apply_one hT hc
    rw [if_neg e] at ha
    by_cases h8 : 8 < (setAt T c.path (stepOf (look T c.path) c).1).length
    · rw [if_pos h8] at ha
      exact .inl (by rw [ha])
    · rw [if_neg h8] at ha
      have hz : (applyR T [c]).2.2 = 0 := by rw [ha]
      have ht := (apply_tree hz).2
      rw [ha] at ht
      refine .inr ⟨hz, ?_⟩
      rw [ha]
      exact cont ht h
/-! ### one hunk by itself -/
theorem piece_stands {a out : List ByteArray} {fr : Nat} {h : Hunk} {more : Int} (hs : standsB a h.old (oldOf h.marks) = true) (h0 : (fr : Int) ≤ h.old) (hn : h.new = h.old + more) (ho : (out.length : Int) = fr + more) (hfr : fr ≤ a.length) :
    strictGo (out ++ a.drop fr) 0 0 [] [⟨h.new, h.new, h.marks⟩] = if 60 < ((out ++ (a.drop fr).take (h.old.toNat - fr) ++ newOf h.marks) ++ a.drop (h.old.toNat + oldN h.marks)).length then ([], 0, 3) else ((out ++ (a.drop fr).take (h.old.toNat - fr) ++ newOf h.marks) ++ a.drop (h.old.toNat + oldN h.marks), 0, 0) := by
  have eo : (oldOf h.marks).length = oldN h.marks := rfl
  unfold standsB at hs
  simp only [Bool.and_eq_true, decide_eq_true_eq] at hs
  obtain ⟨⟨s0, s1⟩, s2⟩ := hs
  obtain ⟨o, ho'⟩ : ∃ o : Nat, h.old = o := ⟨h.old.toNat, by omega⟩
  have hN : h.new.toNat = out.length + (o - fr) := by omega
  rw [ho'] at s0 s1 s2 h0 ⊢
  simp only [Int.toNat_natCast] at s2 ⊢
  have hd : (out ++ a.drop fr).drop (out.length + (o - fr)) = a.drop o := by
    rw [← List.drop_drop, List.drop_left, List.drop_drop, show fr + (o - fr) = o by omega]
  have ht : (out ++ a.drop fr).take (out.length + (o - fr)) = out ++ (a.drop fr).take (o - fr) := by
    rw [List.take_length_add_append]
  have hst : standsB (out ++ a.drop fr) h.new (oldOf h.marks) = true := by
    unfold standsB
    simp only [Bool.and_eq_true, decide_eq_true_eq]
    refine ⟨⟨by omega, ?_⟩, ?_⟩
    · rw [List.length_append, List.length_drop]; omega
    · rw [hN, hd]; exact s2
  have hd2 : (out ++ a.drop fr).drop (out.length + (o - fr) + oldN h.marks) = a.drop (o + oldN h.marks) := by
    rw [← List.drop_drop, hd, List.drop_drop]
  rw [strictGo]
  simp only
  rw [if_pos hst, strictGo, hN, List.drop_zero, Nat.sub_zero, List.nil_append, ht, hd2]
theorem set_same {x : List File} (hs : Sorted x) {p : ByteArray} {l : List ByteArray} (h : look x p = some l) : setAt x p (some l) = x := by
  refine sorted_ext (setAt_sorted hs (fun e => by cases e)) hs fun q => ?_
  rw [setAt_look hs (fun e => by cases e)]
  by_cases e : p = q
  · rw [if_pos e, ← e, h]
  · rw [if_neg e]
theorem set_set {x : List File} (hs : Sorted x) {p : ByteArray} {l m : List ByteArray} : setAt (setAt x p (some l)) p (some m) = setAt x p (some m) := by
  have h1 := setAt_sorted (y := some l) hs (p := p) (fun e => by cases e)
  refine sorted_ext (setAt_sorted h1 (fun e => by cases e)) (setAt_sorted hs (fun e => by cases e)) fun q => ?_
  rw [setAt_look h1 (fun e => by cases e), setAt_look hs (fun e => by cases e), setAt_look hs (fun e => by cases e)]
  by_cases e : p = q
  · rw [if_pos e, if_pos e]
  · rw [if_neg e, if_neg e, if_neg e]
theorem pcF_zero {e : List Change} (h : pcF e = 0) : ∀ c ∈ e, changeFault c = 0 := (patch_of h).2.1
theorem edit_go (a z : List ByteArray) (path : ByteArray) (b ZT : List File) (fr' : Nat) (out' : List ByteArray) (hz : z = out' ++ a.drop fr') (R : List (List Change)) (cont : Tree ZT → Good ZT R b) :
    ∀ (rest : List Hunk) (fr : Nat) (out : List ByteArray) (more : Int) (x : List File), Tree x → look x path = some (out ++ a.drop fr) → setAt x path (some z) = ZT → fr ≤ a.length → (out.length : Int) = fr + more → hOk fr more rest → doAll a fr out rest = some (fr', out') →
      (∀ e ∈ rest.map (pieceOf 1 path), pcF e = 0) → Good x (rest.map (pieceOf 1 path) ++ R) b
  | [], fr, out, more, x, hx, hl, hst, _, _, _, hd, _ => by
    rw [doAll] at hd
    injection hd with hd
    injection hd with h1 h2
    subst h1
    subst h2
    rw [← hz] at hl
    have e : x = ZT := by rw [← hst, set_same hx.2.2 hl]
    show Good x R b
    rw [e] at hx ⊢
    exact cont hx
  | h :: rest, fr, out, more, x, hx, hl, hst, hfr, ho, hk, hd, hp => by
    obtain ⟨k1, k2⟩ := hk
    obtain ⟨_, _, q1, q2, q3, q4, q5, q6⟩ := oneFault_zero k1
    rw [doAll] at hd
    by_cases hsd : standsB a h.old (oldOf h.marks) = true
    · rw [if_pos hsd] at hd
      have hpc := hp (pieceOf 1 path h) (by rw [List.map_cons]; exact List.mem_cons_self ..)
      have hcf := pcF_zero hpc ⟨1, path, [⟨h.new, h.new, h.marks⟩]⟩ (List.mem_singleton.2 rfl)
      have hsg := piece_stands (more := more) hsd q5 q6 ho hfr
      have hlf := tree_read hx hl
      have hh0 := (changeFault_zero hcf).2.2.2.1
      have hstr : strict (out ++ a.drop fr) [⟨h.new, h.new, h.marks⟩] = if 60 < ((out ++ (a.drop fr).take (h.old.toNat - fr) ++ newOf h.marks) ++ a.drop (h.old.toNat + oldN h.marks)).length then ([], 0, 3) else ((out ++ (a.drop fr).take (h.old.toNat - fr) ++ newOf h.marks) ++ a.drop (h.old.toNat + oldN h.marks), 0, 0) := by
        unfold strict
        rw [if_neg (by rw [hlf]; decide), if_neg (by rw [show (hunksFault [(⟨h.new, h.new, h.marks⟩ : Hunk)]) = (0, 0) from hh0]; decide)]
        exact hsg
      have ha := apply_one hx hcf
      have hstep : stepOf (look x path) ⟨1, path, [⟨h.new, h.new, h.marks⟩]⟩ = if 60 < ((out ++ (a.drop fr).take (h.old.toNat - fr) ++ newOf h.marks) ++ a.drop (h.old.toNat + oldN h.marks)).length then (none, 3) else (some ((out ++ (a.drop fr).take (h.old.toNat - fr) ++ newOf h.marks) ++ a.drop (h.old.toNat + oldN h.marks)), 0) := by
        rw [hl]
        unfold stepOf
        rw [if_neg (fun e => by cases e.1), if_neg (fun e => by cases e.2)]
        show (if (strict (out ++ a.drop fr) [⟨h.new, h.new, h.marks⟩]).2.2 ≠ 0 then _ else _) = _
        rw [show (some (out ++ a.drop fr)).getD [] = out ++ a.drop fr from rfl, hstr]
        by_cases h60 : 60 < ((out ++ (a.drop fr).take (h.old.toNat - fr) ++ newOf h.marks) ++ a.drop (h.old.toNat + oldN h.marks)).length
        · rw [if_pos h60, if_pos h60]; rfl
        · rw [if_neg h60, if_neg h60]; rfl
      rw [show (⟨1, path, [⟨h.new, h.new, h.marks⟩]⟩ : Change).path = path from rfl, hstep] at ha
      rw [List.map_cons, List.cons_append]
      by_cases h60 : 60 < ((out ++ (a.drop fr).take (h.old.toNat - fr) ++ newOf h.marks) ++ a.drop (h.old.toNat + oldN h.marks)).length
      · rw [if_pos h60] at ha
        refine .inl ?_
        show (applyR x [⟨1, path, [⟨h.new, h.new, h.marks⟩]⟩]).2.2 = 3
        rw [ha]; rfl
      · rw [if_neg h60] at ha
        rw [if_neg (fun h => h rfl)] at ha
        generalize hy : (out ++ (a.drop fr).take (h.old.toNat - fr) ++ newOf h.marks) ++ a.drop (h.old.toNat + oldN h.marks) = y at ha
        by_cases h8 : 8 < (setAt x path (some y)).length
        · rw [if_pos h8] at ha
          refine .inl ?_
          show (applyR x [⟨1, path, [⟨h.new, h.new, h.marks⟩]⟩]).2.2 = 3
          rw [ha]
        · rw [if_neg h8] at ha
          have hzz : (applyR x (pieceOf 1 path h)).2.2 = 0 := by
            show (applyR x [⟨1, path, [⟨h.new, h.new, h.marks⟩]⟩]).2.2 = 0
            rw [ha]
          have ht := (apply_tree hzz).2
          have ha1 : (applyR x (pieceOf 1 path h)).1 = setAt x path (some y) := by
            show (applyR x [⟨1, path, [⟨h.new, h.new, h.marks⟩]⟩]).1 = _
            rw [ha]
          rw [ha1] at ht
          refine .inr ⟨hzz, ?_⟩
          rw [ha1]
          have hle : h.old.toNat + oldN h.marks ≤ a.length := by
            unfold standsB at hsd
            simp only [Bool.and_eq_true, decide_eq_true_eq] at hsd
            have := hsd.1.2
            have e1 : (oldOf h.marks).length = oldN h.marks := rfl
            omega
          have eo : ((h.old.toNat + oldN h.marks : Nat) : Int) = h.old + oldN h.marks := by omega
          refine edit_go a z path b ZT fr' out' hz R cont rest (h.old.toNat + oldN h.marks) (out ++ (a.drop fr).take (h.old.toNat - fr) ++ newOf h.marks) (more + newN h.marks - oldN h.marks) (setAt x path (some y)) ht ?_ ?_ hle ?_ (by rw [eo]; exact k2) hd (fun e he => hp e (by rw [List.map_cons]; exact List.mem_cons_of_mem _ he))
          · rw [setAt_look hx.2.2 (fun e => by cases e), if_pos rfl, hy]
          · rw [set_set hx.2.2]; exact hst
          · have e1 : (newOf h.marks).length = newN h.marks := rfl
            rw [List.length_append, List.length_append, List.length_take, List.length_drop, e1]
            omega
    · rw [if_neg hsd] at hd; cases hd
theorem wholeB_is {l : List Hunk} {s : Int} (h : wholeB l s = true) (hn : l ≠ []) : ∃ m, l = [⟨0, 0, m⟩] := by
  match l, hn with
  | [x], _ =>
    obtain ⟨o, n, mk⟩ := x
    have h' : (decide (o = 0) && decide (n = 0) && mk.all fun m => decide (m.sign = s)) = true := h
    simp only [Bool.and_eq_true, decide_eq_true_eq] at h'
    obtain ⟨⟨rfl, rfl⟩, _⟩ := h'
    exact ⟨mk, rfl⟩
  | _ :: _ :: _, _ => cases h
theorem good_go (b : List File) : ∀ (p : List Change) (T : List File) (i k : Nat), Tree T → (∀ c ∈ p, changeFault c = 0) → (∀ e ∈ pieces p, pcF e = 0) → applyGo i T p = (b, k, 0) → Good T (pieces p) b
  | [], T, i, k, _, _, _, h => by
    rw [applyGo] at h
    injection h with h _
  | c :: r, T, i, k, hT, hc, hp, h => by
    have hc0 := hc c (List.mem_cons_self ..)
    have e : pieces (c :: r) = piecesC c ++ pieces r := rfl
    have hpr : ∀ e ∈ pieces r, pcF e = 0 := fun x hx => hp x (by rw [e]; exact List.mem_append_right _ hx)
    have hcr : ∀ d ∈ r, changeFault d = 0 := fun d hd => hc d (List.mem_cons_of_mem _ hd)
    have cont : Tree (setAt T c.path (stepOf (look T c.path) c).1) → applyGo (i + 1) (setAt T c.path (stepOf (look T c.path) c).1) r = (b, k, 0) → Good (setAt T c.path (stepOf (look T c.path) c).1) (pieces r) b := fun h1 h2 => good_go b r _ (i + 1) k h1 hcr hpr h2
    obtain ⟨w1, w3, _, hh, hsh⟩ := changeFault_zero hc0
    by_cases h0 : c.hunks = []
    · have e1 : piecesC c = [[c]] := if_pos h0
      rw [e, e1]
      exact go_one hT hc0 h cont
    · have e1 : piecesC c = c.hunks.map (pieceOf c.what c.path) := if_neg h0
      by_cases hw : c.what = 1
      · rw [e, e1, hw]
        rw [applyGo] at h
        by_cases hf : (stepOf (look T c.path) c).2 ≠ 0
        · rw [if_pos hf] at h
          injection h with _ h
          injection h with _ h
          exact absurd h hf
        · rw [if_neg hf] at h
          have hf0 : (stepOf (look T c.path) c).2 = 0 := by simpa using hf
          cases hl : look T c.path with
          | none =>
            rw [hl] at hf0
            unfold stepOf at hf0
            rw [if_neg (fun e => by cases e.2), if_pos ⟨by rw [hw]; decide, rfl⟩] at hf0
            cases hf0
          | some a =>
            have hs : (strict a c.hunks).2.2 = 0 ∧ stepOf (some a) c = (some (strict a c.hunks).1, 0) := by
              rw [hl] at hf0
              unfold stepOf at hf0 ⊢
              rw [if_neg (fun e => by rw [hw] at e; exact absurd e.1 (by decide)), if_neg (fun e => by cases e.2)] at hf0 ⊢
              by_cases hst : (strict a c.hunks).2.2 ≠ 0
              · rw [show (some a).getD [] = a from rfl, if_pos hst] at hf0
                exact absurd hf0 hst
              · rw [show (some a).getD [] = a from rfl, if_neg hst, if_neg (by rw [hw]; decide)]
                exact ⟨by simpa using hst, rfl⟩
            obtain ⟨z0, _, z2⟩ := strict_zero (a := a) (l := c.hunks) (y := (strict a c.hunks).1) (k := (strict a c.hunks).2.1) (Prod.ext rfl (Prod.ext rfl hs.1))
            obtain ⟨fr', out', d1, d2, _, _⟩ := strictGo_inv _ _ _ _ _ _ _ z2
            have hok := (hunksFault_zero (by rw [hh])).2
            rw [hl, hs.2] at h cont
            refine edit_go a (strict a c.hunks).1 c.path b (setAt T c.path (some (strict a c.hunks).1)) fr' out' d2 (pieces r) (fun ht => cont ht h) c.hunks 0 [] 0 T hT (by rw [hl]; rfl) rfl (Nat.zero_le _) (by simp) hok d1 (fun x hx => hp x ?_)
            rw [e, e1, hw]
            exact List.mem_append_left _ hx
      · have hsB : ∃ s, wholeB c.hunks s = true := by
          unfold shapeB at hsh
          by_cases h2 : c.what = 2
          · rw [if_pos h2] at hsh; exact ⟨_, hsh⟩
          · have h3 : c.what = 3 := by omega
            rw [if_neg h2, if_pos h3] at hsh; exact ⟨_, hsh⟩
        obtain ⟨s, hsB⟩ := hsB
        obtain ⟨mk, hmk⟩ := wholeB_is hsB h0
        have e2 : piecesC c = [[c]] := by
          rw [e1, hmk]
          show [pieceOf c.what c.path ⟨0, 0, mk⟩] = [[c]]
          unfold pieceOf
          obtain ⟨cw, cp, ch⟩ := c
          simp only at hmk
          subst hmk
          rfl
        rw [e, e2]
        exact go_one hT hc0 h cont
theorem first_mem {α : Type} {f : α → Int} {l : List α} (h : firstOf f l = 0) : ∀ x ∈ l, f x = 0 := (firstOf_zero f l).1 h
theorem split_good {t b : List File} {p : List Change} {k : Nat} (hs : splitPF p = 0) (h : applyR t p = (b, k, 0)) : Good t (pieces p) b := by
  obtain ⟨_, hT, hP, _, _, _⟩ := applyR_inv h
  have hf : firstOf pcF (pieces p) = 0 := by
    unfold splitPF at hs
    rwa [if_neg (by rw [patch_ok hP]; decide)] at hs
  unfold applyR at h
  rw [if_neg (by rw [tree_iff.1 hT]; decide), if_neg (by rw [patch_ok hP]; decide)] at h
  by_cases h1 : (applyGo 0 t p).2.2 ≠ 0
  · rw [if_pos h1] at h
    rw [h] at h1
    exact absurd rfl h1
  · rw [if_neg h1] at h
    by_cases h2 : 8 < (applyGo 0 t p).1.length
    · rw [if_pos h2] at h
      injection h with _ h
      injection h with _ h
      cases h
    · rw [if_neg h2] at h
      injection h with h _
      refine good_go b p t 0 (applyGo 0 t p).2.1 hT hP.2.1 (first_mem hf) ?_
      exact Prod.ext h (Prod.ext rfl (by simpa using h1))
/-- each piece is one change of one hunk at most -/
theorem pieces_shape {p : List Change} {e : List Change} (h : e ∈ pieces p) : ∃ c, e = [c] ∧ c.hunks.length ≤ 1 := by
  obtain ⟨c, _, hc⟩ := List.mem_flatMap.1 h
  unfold piecesC at hc
  by_cases h0 : c.hunks = []
  · rw [if_pos h0] at hc
    exact ⟨c, List.mem_singleton.1 hc, by rw [h0]; simp⟩
  · rw [if_neg h0] at hc
    obtain ⟨x, _, rfl⟩ := List.mem_map.1 hc
    exact ⟨_, rfl, by simp⟩
end Go.Proofs.YtibeddcebefbjaaDoor
namespace Go.Proofs.YtibeddcebefbjaaDoor
open Go.RowKit

def doneR (there : Bool) (L : List ByteArray) (c : Change) : List ByteArray × Bool × Int :=
  if c.what = 2 ∧ there = true then ([], false, 6)
  else if c.what ≠ 2 ∧ there = false then ([], false, 4)
  else if (strict L c.hunks).2.2 ≠ 0 then ([], false, (strict L c.hunks).2.2)
  else if c.what = 3 ∧ (strict L c.hunks).1 ≠ [] then ([], false, 6)
  else ((strict L c.hunks).1, decide (c.what ≠ 3), 0)
theorem done_step (x : Option (List ByteArray)) (c : Change) : stepOf x c = (if (doneR x.isSome (x.getD []) c).2.1 = true then some (doneR x.isSome (x.getD []) c).1 else none, (doneR x.isSome (x.getD []) c).2.2) := by
  unfold stepOf doneR
  by_cases h1 : c.what = 2 ∧ x.isSome = true
  · rw [if_pos h1, if_pos h1]; rfl
  · rw [if_neg h1, if_neg h1]
    by_cases h2 : c.what ≠ 2 ∧ x.isSome = false
    · rw [if_pos h2, if_pos h2]; rfl
    · rw [if_neg h2, if_neg h2]
      by_cases h3 : (strict (x.getD []) c.hunks).2.2 ≠ 0
      · rw [if_pos h3, if_pos h3]; rfl
      · rw [if_neg h3, if_neg h3]
        by_cases h4 : c.what = 3
        · by_cases h5 : (strict (x.getD []) c.hunks).1 = []
          · simp [h4, h5]
          · simp [h4, h5]
        · simp [h4]
theorem done_clash {there : Bool} {L : List ByteArray} {c : Change} (h : c.what = 2 ∧ there = true) : doneR there L c = ([], false, 6) := if_pos h
theorem done_none {there : Bool} {L : List ByteArray} {c : Change} (h : c.what ≠ 2 ∧ there = false) : doneR there L c = ([], false, 4) := by unfold doneR; rw [if_neg (fun g => h.1 g.1), if_pos h]
theorem done_bad {there : Bool} {L : List ByteArray} {c : Change} (h1 : ¬ (c.what = 2 ∧ there = true)) (h2 : ¬ (c.what ≠ 2 ∧ there = false)) (h : (strict L c.hunks).2.2 ≠ 0) : doneR there L c = ([], false, (strict L c.hunks).2.2) := by unfold doneR; rw [if_neg h1, if_neg h2, if_pos h]
theorem done_left {there : Bool} {L : List ByteArray} {c : Change} (h1 : ¬ (c.what = 2 ∧ there = true)) (h2 : ¬ (c.what ≠ 2 ∧ there = false)) (h : (strict L c.hunks).2.2 = 0) (g : c.what = 3 ∧ (strict L c.hunks).1 ≠ []) : doneR there L c = ([], false, 6) := by unfold doneR; rw [if_neg h1, if_neg h2, if_neg (by rw [h]; decide), if_pos g]
theorem done_good {there : Bool} {L : List ByteArray} {c : Change} (h1 : ¬ (c.what = 2 ∧ there = true)) (h2 : ¬ (c.what ≠ 2 ∧ there = false)) (h : (strict L c.hunks).2.2 = 0) (g : ¬ (c.what = 3 ∧ (strict L c.hunks).1 ≠ [])) : doneR there L c = ((strict L c.hunks).1, decide (c.what ≠ 3), 0) := by unfold doneR; rw [if_neg h1, if_neg h2, if_neg (by rw [h]; decide), if_neg g]
def DonePost (there : Bool) (L : List ByteArray) (c : Change) (w : World) (e : Ending) (w' : World) : Prop := ∃ r, e = .returned (.tuple #[r, .bool (doneR there L c).2.1, errV (doneR there L c).2.2]) ∧ Chg Never w w' ∧ Rdv w' (Old w.heap.size) r (doneR there L c).1
theorem donePost_bad {there : Bool} {L : List ByteArray} {c : Change} {w w' : World} {k : Int} (h : doneR there L c = ([], false, k)) (hc : Chg Never w w') : DonePost there L c w (.returned (.tuple #[.slice none 0 0, .bool false, errV k])) w' :=
  ⟨_, by rw [h], hc, by rw [h]; exact rdv_nil _ _⟩
theorem donePost_ok {there b : Bool} {L R : List ByteArray} {c : Change} {w w' : World} {r : Value} (h : doneR there L c = (R, b, 0)) (hc : Chg Never w w') (hr : Rdv w' (Old w.heap.size) r R) : DonePost there L c w (.returned (.tuple #[r, .bool b, .nilIface])) w' :=
  ⟨_, by rw [h]; rfl, hc, by rw [h]; exact hr⟩
set_option maxHeartbeats 2000000 in
set_option maxRecDepth 100000 in
theorem done_go (there : Bool) (L : List ByteArray) (wh : Int) (pa : ByteArray) (hs : List Hunk) (lv hv : Value) (w : World) (hL : Rdv w Never lv L) (hh : Rdv w Never hv hs) :
    Calls Tryd.prog 57 #[lv, .bool there, .agg #[.int .i64 wh, .string pa, hv]] w fun e w' => DonePost there L ⟨wh, pa, hs⟩ w e w' := by
  obtain ⟨a, cap, rfl, h1, h2, _⟩ := rdv_slice hh
  obtain ⟨la, lcap, rfl, _, _, _⟩ := rdv_slice hL
  by_cases k2 : wh = 2
  · subst k2
    obtain ⟨hA, b0, b1, b2⟩ := box1_change w 60 2 pa (.slice a hs.length cap) _ rfl
    cases there with
    | true =>
      have HG := Lib.hid (donePost_bad (w := w) (done_clash (L := L) (c := ⟨2, pa, hs⟩) ⟨rfl, rfl⟩) hA)
      go_enter Tryd.func57, Tryd.ntmps57
      go_wp2_with fail
      go_ret3
      have E := HG.out
      rw [errV_pos (by decide)] at E
      exact E
    | false =>
      have n1 : ¬ ((⟨2, pa, hs⟩ : Change).what = 2 ∧ false = true) := fun h => by cases h.2
      have n2 : ¬ ((⟨2, pa, hs⟩ : Change).what ≠ 2 ∧ false = false) := fun h => h.1 rfl
      by_cases z : (strict L hs).2.2 = 0
      · have HG : Hid (doneR false L ⟨2, pa, hs⟩ = ((strict L hs).1, true, 0)) := done_good n1 n2 z (fun h => absurd (show (2 : Int) = 3 from h.1) (by decide))
        have ZS := Lib.hid z
        clear z n1 n2
        go_enter Tryd.func57, Tryd.ntmps57
        go_wp2_with fail
        generalize w.alloc (.cells #[.int .i64 2, .string pa, .slice a hs.length cap] 60) = wA at hA b0 b1 b2 ⊢
        refine (strict_any L hs _ _ _ (hL.never hA) (hh.never hA)).mono ?_
        rintro e w2 ⟨r, rfl, hc2, hr⟩
        have hw := hA.trans hc2
        have b0 := hc2.cellNever b0
        have hr := hr.sub (O' := Old w.heap.size) (fun k _ h => Nat.lt_of_lt_of_le h hA.size)
        clear hc2 b1 b2
        skip
        obtain ⟨ra, rc, rfl, _, _, _⟩ := rdv_slice hr
        rw [ZS.out, errV_zero]
        go_wp2_with fail
        go_quiet (fail)
        go_wp2_with fail
        go_ret3
        exact donePost_ok HG.out (hw.drewN _) (hr.never ((Chg.refl Never _).drewN _))
      · have HG := Lib.hid (done_bad n1 n2 z)
        have ZS := Lib.hid z
        clear z n1 n2
        go_enter Tryd.func57, Tryd.ntmps57
        go_wp2_with fail
        generalize w.alloc (.cells #[.int .i64 2, .string pa, .slice a hs.length cap] 60) = wA at hA b0 b1 b2 ⊢
        refine (strict_any L hs _ _ _ (hL.never hA) (hh.never hA)).mono ?_
        rintro e w2 ⟨r, rfl, hc2, hr⟩
        have hw := hA.trans hc2
        have b0 := hc2.cellNever b0
        have hr := hr.sub (O' := Old w.heap.size) (fun k _ h => Nat.lt_of_lt_of_le h hA.size)
        clear hc2 b1 b2
        skip
        obtain ⟨ra, rc, rfl, _, _, _⟩ := rdv_slice hr
        rw [errV_pos ZS.out]
        clear b0
        go_wp2_with fail
        go_ret3
        have E := donePost_bad HG.out hw
        rw [errV_pos ZS.out] at E
        exact E
  · have t2 : (wh == 2) = false := by simp [k2]
    have t2' : (wh != 2) = true := by simp [k2]
    obtain ⟨hA, b0, b1, b2⟩ := box1_change w 60 wh pa (.slice a hs.length cap) _ rfl
    cases there with
    | false =>
      have HG := Lib.hid (donePost_bad (w := w) (done_none (L := L) (c := ⟨wh, pa, hs⟩) ⟨k2, rfl⟩) hA)
      clear k2
      go_enter Tryd.func57, Tryd.ntmps57
      go_wp2_with fail
      go_ret3
      have E := HG.out
      rw [errV_pos (by decide)] at E
      exact E
    | true =>
      have n1 : ¬ ((⟨wh, pa, hs⟩ : Change).what = 2 ∧ true = true) := fun h => k2 h.1
      have n2 : ¬ ((⟨wh, pa, hs⟩ : Change).what ≠ 2 ∧ true = false) := fun h => by cases h.2
      by_cases z : (strict L hs).2.2 = 0
      · have ZS := Lib.hid z
        by_cases k3 : wh = 3
        · subst k3
          by_cases h0 : (strict L hs).1 = []
          · have HG : Hid (doneR true L ⟨3, pa, hs⟩ = ([], false, 0)) := (done_good n1 n2 z (fun h => h.2 h0)).trans (by rw [show (strict L (⟨3, pa, hs⟩ : Change).hunks).1 = [] from h0]; rfl)
            have H0 := Lib.hid h0
            clear z n1 n2 k2 h0 t2 t2'
            go_enter Tryd.func57, Tryd.ntmps57
            go_wp2_with fail
            generalize w.alloc (.cells #[.int .i64 3, .string pa, .slice a hs.length cap] 60) = wA at hA b0 b1 b2 ⊢
            refine (strict_any L hs _ _ _ (hL.never hA) (hh.never hA)).mono ?_
            rintro e w2 ⟨r, rfl, hc2, hr⟩
            have hw := hA.trans hc2
            have b0 := hc2.cellNever b0
            have hr := hr.sub (O' := Old w.heap.size) (fun k _ h => Nat.lt_of_lt_of_le h hA.size)
            clear hc2 b1 b2
            rw [H0.out] at hr
            obtain ⟨ra, rc, rfl, _, _, _⟩ := rdv_slice hr
            rw [ZS.out, errV_zero]
            go_wp2_with fail
            go_quiet (fail)
            go_wp2_with fail
            go_ret3
            exact donePost_ok HG.out (hw.drewN _) (hr.never ((Chg.refl Never _).drewN _))
          · have HG := Lib.hid (done_left n1 n2 z ⟨rfl, h0⟩)
            have hpos : 0 < (strict L hs).1.length := List.length_pos_iff.2 h0
            clear z n1 n2 k2 h0 t2 t2'
            go_enter Tryd.func57, Tryd.ntmps57
            go_wp2_with fail
            generalize w.alloc (.cells #[.int .i64 3, .string pa, .slice a hs.length cap] 60) = wA at hA b0 b1 b2 ⊢
            refine (strict_any L hs _ _ _ (hL.never hA) (hh.never hA)).mono ?_
            rintro e w2 ⟨r, rfl, hc2, hr⟩
            have hw := hA.trans hc2
            have b0 := hc2.cellNever b0
            have hr := hr.sub (O' := Old w.heap.size) (fun k _ h => Nat.lt_of_lt_of_le h hA.size)
            clear hc2 b1 b2
            skip
            obtain ⟨ra, rc, rfl, _, _, _⟩ := rdv_slice hr
            rw [ZS.out, errV_zero]
            go_wp2_with fail
            all_goals first | (go_ret3; have E := donePost_bad HG.out hw; rw [errV_pos (by decide)] at E; exact E) | skip
        · have t3 : (wh == 3) = false := by simp [k3]
          have HG : Hid (doneR true L ⟨wh, pa, hs⟩ = ((strict L hs).1, wh != 3, 0)) := (done_good n1 n2 z (fun h => k3 h.1)).trans (by rw [show decide ((⟨wh, pa, hs⟩ : Change).what ≠ 3) = true from decide_eq_true k3, show (wh != 3) = true by simp [k3]])
          clear z n1 n2 k2 k3
          go_enter Tryd.func57, Tryd.ntmps57
          go_wp2_with fail
          generalize w.alloc (.cells #[.int .i64 wh, .string pa, .slice a hs.length cap] 60) = wA at hA b0 b1 b2 ⊢
          refine (strict_any L hs _ _ _ (hL.never hA) (hh.never hA)).mono ?_
          rintro e w2 ⟨r, rfl, hc2, hr⟩
          have hw := hA.trans hc2
          have b0 := hc2.cellNever b0
          have hr := hr.sub (O' := Old w.heap.size) (fun k _ h => Nat.lt_of_lt_of_le h hA.size)
          clear hc2 b1 b2
          skip
          obtain ⟨ra, rc, rfl, _, _, _⟩ := rdv_slice hr
          rw [ZS.out, errV_zero]
          go_wp2_with fail
          go_quiet (fail)
          go_wp2_with fail
          go_ret3
          exact donePost_ok HG.out (hw.drewN _) (hr.never ((Chg.refl Never _).drewN _))
      · clear k2
        have HG := Lib.hid (done_bad n1 n2 z)
        have ZS := Lib.hid z
        clear z n1 n2
        go_enter Tryd.func57, Tryd.ntmps57
        go_wp2_with fail
        generalize w.alloc (.cells #[.int .i64 wh, .string pa, .slice a hs.length cap] 60) = wA at hA b0 b1 b2 ⊢
        refine (strict_any L hs _ _ _ (hL.never hA) (hh.never hA)).mono ?_
        rintro e w2 ⟨r, rfl, hc2, hr⟩
        have hw := hA.trans hc2
        have b0 := hc2.cellNever b0
        have hr := hr.sub (O' := Old w.heap.size) (fun k _ h => Nat.lt_of_lt_of_le h hA.size)
        clear hc2 b1 b2
        skip
        obtain ⟨ra, rc, rfl, _, _, _⟩ := rdv_slice hr
        rw [errV_pos ZS.out]
        clear b0
        go_wp2_with fail
        go_ret3
        have E := donePost_bad HG.out hw
        rw [errV_pos ZS.out] at E
        exact E
theorem done_any (there : Bool) (L : List ByteArray) (c : Change) (lv hv : Value) (w : World) (hL : Rdv w Never lv L) (hh : Rdv w Never hv c.hunks) :
    Calls Tryd.prog 57 #[lv, .bool there, .agg #[.int .i64 c.what, .string c.path, hv]] w fun e w' => DonePost there L c w e w' := done_go there L c.what c.path c.hunks lv hv w hL hh
end Go.Proofs.YtibeddcebefbjaaDoor
namespace Go.Proofs.YtibeddcebefbjaaDoor
open Go.RowKit

set_option maxRecDepth 100000 in
theorem find_cmp (x : File) (p : ByteArray) (lv : Value) (w : World) :
    Calls Tryd.prog 79 #[.agg #[.string x.path, lv], .string p] w fun e w' => e = .returned (.int .i64 (Lib.compareBytes x.path.data.toList p.data.toList)) ∧ Chg Never w w' := by
  go_enter Tryd.func79, Tryd.ntmps79
  go_wp2_with fail
  refine (Tryd.strings_Compare x.path p _).mono ?_
  rintro e w1 ⟨rfl, hw1⟩
  rw [hw1]
  go_wp2_with fail
  go_ret
  exact ⟨rfl, (Chg.refl _ _).alloc _⟩
theorem cmp_less {a b : ByteArray} : (Lib.compareBytes a.data.toList b.data.toList < 0 ↔ less a b = true) ∧ (Lib.compareBytes a.data.toList b.data.toList = 0 ↔ a = b) := by
  obtain ⟨h1, h2⟩ := compare_bl a.data.toList b.data.toList
  refine ⟨?_, ?_⟩
  · rw [h1]; unfold less; rw [Lib.toList_data, Lib.toList_data]
  · rw [h2]
    exact ⟨fun h => ByteArray.ext (Array.toList_inj.1 h), fun h => by rw [h]⟩

/-- what a binary search has told of the places from a to b -/
structure BSt (t : List File) (p : ByteArray) (a b : Nat) : Prop where
  le : a ≤ b
  top : b ≤ t.length
  lo : ∀ q f, q < a → t[q]? = some f → less f.path p = true
  hi : ∀ q f, b ≤ q → t[q]? = some f → less f.path p = false
theorem bst_start (t : List File) (p : ByteArray) : BSt t p 0 t.length :=
  ⟨Nat.zero_le _, Nat.le_refl _, fun q f h => absurd h (Nat.not_lt_zero q), fun q f h hf => by have := (List.getElem?_eq_some_iff.1 hf).1; omega⟩
theorem BSt.up {t : List File} {p : ByteArray} {a b c : Nat} {x : File} (h : BSt t p a b) (hs : Sorted t) (h1 : a ≤ c) (h2 : c < b) (hx : t[c]? = some x) (hl : less x.path p = true) : BSt t p (c + 1) b :=
  ⟨by omega, h.top, fun q f hq hf => by
    by_cases e : q = c
    · subst e; rw [hx] at hf; injection hf with hf; rw [← hf]; exact hl
    · exact less_trans (sorted_mono hs (show q < c by omega) hf hx) hl, h.hi⟩
theorem BSt.down {t : List File} {p : ByteArray} {a b c : Nat} {x : File} (h : BSt t p a b) (hs : Sorted t) (h1 : a ≤ c) (h2 : c < b) (hx : t[c]? = some x) (hl : less x.path p = false) : BSt t p a c :=
  ⟨h1, by have := h.top; omega, h.lo, fun q f hq hf => by
    by_cases e : q = c
    · subst e; rw [hx] at hf; injection hf with hf; rw [← hf]; exact hl
    · have hm := sorted_mono hs (show c < q by omega) hx hf
      cases hb : less f.path p with
      | false => rfl
      | true => have := less_trans hm hb; rw [hl] at this; cases this⟩
theorem BSt.pos {t : List File} {p : ByteArray} {a : Nat} (h : BSt t p a a) : posOf t p = a := pos_unique h.lo (fun f hf => h.hi a f (Nat.le_refl _) hf) h.top

set_option maxHeartbeats 2000000 in
set_option maxRecDepth 100000 in
theorem bs_any (t : List File) (p : ByteArray) (v : Value) (w : World) (h : Rdv w Never v t) (hs : Sorted t) (hl : t.length ≤ 1000000) :
    Calls Tryd.prog 78 #[v, .string p, .func (.func 79) #[] #[]] w fun e w' => e = .returned (.tuple #[.int .i64 (posOf t p), .bool (isAt t p)]) ∧ Chg Never w w' := by
  have HS := Lib.hid hs
  clear hs
  obtain ⟨a, cap, rfl, h1, h2, h3⟩ := rdv_slice h
  unfold maxLen at h2
  go_enter Tryd.func78, Tryd.ntmps78
  go_wp2_with fail
  go_loopw [9, 10] (fun i j wr => ∃ x y : Nat, i = .int .i64 x ∧ j = .int .i64 y ∧ Chg Never w wr ∧ BSt t p x y) (fun i j _ => (intOf j).toNat - (intOf i).toNat)
  case atStart => exact ⟨0, t.length, rfl, rfl, Chg.refl _ _, bst_start t p⟩
  case round =>
    obtain ⟨x, y, rfl, rfl, hc, hB⟩ := hrel
    have hle := hB.le
    have htop := hB.top
    by_cases hlt : x < y
    · obtain ⟨z, hz⟩ : ∃ z, (x + y) / 2 = z := ⟨_, rfl⟩
      have zI : ((x : Int) + y) / 2 = z := by omega
      have hz1 : x ≤ z := by omega
      have hz2 : z < y := by omega
      obtain ⟨f, hf⟩ : ∃ f, t[z]? = some f := ⟨t[z]'(by omega), by simp [show z < t.length by omega]⟩
      obtain ⟨b, off, lv, rfl, _, _, c0, c1, _, _⟩ := elems_file h3 hf
      have c0 := hc.cellNever c0
      have c1 := hc.cellNever c1
      have HX := Lib.hid hf
      clear hf
      cases hq : less f.path p with
      | true =>
        have t1 : decide (Lib.compareBytes f.path.data.toList p.data.toList < 0) = true := decide_eq_true (cmp_less.1.2 hq)
        go_wp2_with fail
        refine (find_cmp f p _ _).mono ?_
        rintro e w2 ⟨rfl, hc2⟩
        have hc2 := hc.trans hc2
        clear c0 c1
        go_wp2_with fail
        go_roundw
        case rel => exact ⟨z + 1, y, by go_num, rfl, hc2, hB.up HS.out hz1 hz2 HX.out hq⟩
        case measure => simp [intOf] <;> omega
      | false =>
        have t1 : decide (Lib.compareBytes f.path.data.toList p.data.toList < 0) = false := decide_eq_false (fun hh => by rw [cmp_less.1.1 hh] at hq; cases hq)
        go_wp2_with fail
        refine (find_cmp f p _ _).mono ?_
        rintro e w2 ⟨rfl, hc2⟩
        have hc2 := hc.trans hc2
        clear c0 c1
        go_wp2_with fail
        go_roundw
        case rel => exact ⟨x, z, rfl, rfl, hc2, hB.down HS.out hz1 hz2 HX.out hq⟩
        case measure => simp [intOf] <;> omega
    · obtain rfl : x = y := by omega
      have HP := Lib.hid hB.pos
      by_cases hxt : x < t.length
      · obtain ⟨f, hf⟩ : ∃ f, t[x]? = some f := ⟨t[x], by simp [hxt]⟩
        obtain ⟨b, off, lv, rfl, _, _, c0, c1, _, _⟩ := elems_file h3 hf
        have c0 := hc.cellNever c0
        have c1 := hc.cellNever c1
        by_cases e : f.path = p
        · have HI : Hid (isAt t p = true) := by unfold Hid isAt; rw [HP.out, hf]; simp [e]
          have t1 : (Lib.compareBytes f.path.data.toList p.data.toList == 0) = true := beq_iff_eq.2 (cmp_less.2.2 e)
          clear hf e
          go_wp2_with fail
          refine (find_cmp f p _ _).mono ?_
          rintro e w2 ⟨rfl, hc2⟩
          have hc2 := hc.trans hc2
          clear c0 c1
          go_wp2_with fail
          go_ret2
          exact ⟨by rw [HP.out, HI.out]; rfl, hc2⟩
        · have HI : Hid (isAt t p = false) := by unfold Hid isAt; rw [HP.out, hf]; simp [e]
          have t1 : (Lib.compareBytes f.path.data.toList p.data.toList == 0) = false := beq_eq_false_iff_ne.2 (fun hh => e (cmp_less.2.1 hh))
          clear hf e
          go_wp2_with fail
          refine (find_cmp f p _ _).mono ?_
          rintro e w2 ⟨rfl, hc2⟩
          have hc2 := hc.trans hc2
          clear c0 c1
          go_wp2_with fail
          go_ret2
          exact ⟨by rw [HP.out, HI.out]; rfl, hc2⟩
      · have HI : Hid (isAt t p = false) := by unfold Hid isAt; rw [HP.out, List.getElem?_eq_none (by omega)]; rfl
        go_wp2_with fail
        go_ret2
        exact ⟨by rw [HP.out, HI.out]; rfl, hc⟩

set_option maxHeartbeats 2000000 in
set_option maxRecDepth 100000 in
theorem find_any (t : List File) (p : ByteArray) (v : Value) (w : World) (h : Rdv w Never v t) (hs : Sorted t) (hl : t.length ≤ 1000000) :
    Calls Tryd.prog 56 #[v, .string p] w fun e w' => e = .returned (.tuple #[.int .i64 (posOf t p), .bool (isAt t p)]) ∧ Chg Never w w' := by
  obtain ⟨a, cap, rfl, h1, h2, h3⟩ := rdv_slice h
  unfold maxLen at h2
  go_enter Tryd.func56, Tryd.ntmps56
  go_wp2_with fail
  refine (bs_any t p _ _ h hs hl).mono ?_
  rintro e w1 ⟨rfl, hc⟩
  go_wp2_with fail
  go_ret2
  exact ⟨rfl, hc⟩
end Go.Proofs.YtibeddcebefbjaaDoor
namespace Go.Proofs.YtibeddcebefbjaaDoor
open Go.RowKit

/-- block B holds two cells of its own -/
def Blk2 (w : World) (B : Nat) (t : TypeId) (x y : Value) : Prop := w.heap[B]? = some (.cells #[x, y] t (0, 0))
theorem Blk2.cell {w : World} {B : Nat} {t : TypeId} {x y : Value} (h : Blk2 w B t x y) : w.cell? ⟨B, 0, none⟩ = some x ∧ w.cell? ⟨B, 1, none⟩ = some y := by
  unfold Blk2 at h
  refine ⟨?_, ?_⟩ <;> (unfold World.cell?; rw [h]; rfl)
theorem Blk2.free {w : World} {B : Nat} {t : TypeId} {x y : Value} (h : Blk2 w B t x y) (j : Nat) : w.frozen? ⟨B, j, none⟩ = false := by
  unfold Blk2 at h
  unfold World.frozen?; rw [h]; simp
theorem Blk2.lt {w : World} {B : Nat} {t : TypeId} {x y : Value} (h : Blk2 w B t x y) : B < w.heap.size := (Array.getElem?_eq_some_iff.1 h).1
theorem Blk2.keep {w w' : World} {B : Nat} {t : TypeId} {x y : Value} {O : Nat → Prop} (h : Blk2 w B t x y) (hc : Chg O w w') (hB : ¬ O B) : Blk2 w' B t x y := by
  unfold Blk2 at *
  rw [hc.block B (Array.getElem?_eq_some_iff.1 h).1 hB]
  exact h
theorem Blk2.set1 {w : World} {B : Nat} {t : TypeId} {x y : Value} (h : Blk2 w B t x y) (u : Value) : Blk2 (w.setCell ⟨B, 1, none⟩ u) B t x u := by
  unfold Blk2 at *
  simp [World.setCell, Array.getElem?_modify, h]
theorem Blk2.new (w : World) (t : TypeId) (x y : Value) : Blk2 (w.alloc (.cells #[x, y] t)) w.heap.size t x y := heap_alloc_new _ _
end Go.Proofs.YtibeddcebefbjaaDoor
namespace Go.Proofs.YtibeddcebefbjaaDoor
open Go.RowKit

theorem take_snoc {α : Type} {l : List α} {k : Nat} {x : α} (hx : l[k]? = some x) : l.take (k + 1) = l.take k ++ [x] := by rw [List.take_add_one, hx]; rfl
set_option maxHeartbeats 2000000 in
set_option maxRecDepth 100000 in
theorem tree_copy_any (t : List File) (v : Value) (w : World) (h : Rdv w Never v t) (hl : t.length ≤ 1000000) (hll : ∀ f ∈ t, f.lines.length ≤ 1000000) :
    Calls Tryd.prog 41 #[v] w fun e w' => ∃ r, e = .returned r ∧ Chg Never w w' ∧ Own 37 w' (Old w.heap.size) r t := by
  obtain ⟨a, cap, rfl, h1, h2, h3⟩ := rdv_slice h
  unfold maxLen at h2
  go_enter Tryd.func41, Tryd.ntmps41
  go_wp2_with fail
  go_loopw [3, 8] (fun o i wr => ∃ k : Nat, k ≤ t.length ∧ i = .int .i64 k ∧ Chg Never w wr ∧ Own 37 wr (Old w.heap.size) o (t.take k)) (fun _ i _ => t.length - (intOf i).toNat)
  case atStart => exact ⟨0, Nat.zero_le _, rfl, Chg.refl _ _, own_nil _ _ _⟩
  case round =>
    obtain ⟨k, hk, rfl, hc, hown⟩ := hrel
    by_cases hlt : k < t.length
    · obtain ⟨x, hx⟩ : ∃ x, t[k]? = some x := ⟨t[k], by simp [hlt]⟩
      obtain ⟨b, off, lv, rfl, _, _, c0, c1, hps, hlv⟩ := elems_file h3 hx
      obtain ⟨la, lcap, rfl, _, _, _⟩ := rdv_slice hlv
      have hxl := hll x (List.mem_of_getElem? hx)
      have c0 := hc.cellNever c0
      have c1 := hc.cellNever c1
      have HT := Lib.hid (take_snoc hx)
      have htl : (t.take k).length ≤ 1000000000 := Nat.le_trans (List.length_take_le _ _) (by omega)
      have hsz := hc.size
      have holt := own_block_lt hown
      have hA : Chg Never wr (wr.alloc (.cells #[.string x.path, .slice la x.lines.length lcap] 37)) := (Chg.refl Never wr).alloc _
      have hBX := Blk2.new wr 37 (.string x.path) (.slice la x.lines.length lcap)
      have hownA := hown.keep (O'' := fun j => Old w.heap.size j ∨ j = wr.heap.size) hA (fun _ _ hh => hh.elim) (by rintro j hj (hh | rfl); exact hh; exact absurd hj (Nat.lt_irrefl _))
      have hlvA := (hlv.never hc).never hA
      have hcA := hc.trans hA
      have hBlt := hBX.lt
      obtain ⟨b0, b1⟩ := hBX.cell
      clear hx h3 h hown hlv
      go_wp2_with fail
      generalize wr.alloc (.cells #[.string x.path, .slice la x.lines.length lcap] 37) = w3 at hBX hownA hlvA hcA hBlt b0 b1 hA ⊢
      generalize hBe : wr.heap.size = B at hBX hownA hBlt b0 b1 hsz holt ⊢
      clear hc hA hBe
      refine (clone_str Never x.lines _ _ hlvA hxl).mono ?_
      rintro e w4 ⟨r4, rfl, hc4, hown4⟩
      obtain ⟨ra, rn, rc, rfl⟩ := own_isSlice hown4
      have hB4 := hBX.keep hc4 (fun h => h)
      have b3 := hB4.free
      have hB5 := hB4.set1 (.slice ra rn rc)
      obtain ⟨b0, b1⟩ := hB4.cell
      obtain ⟨k0, k1⟩ := hB5.cell
      have hS : Chg (fun j => j = B) w4 (w4.setCell ⟨B, 1, none⟩ (.slice ra rn rc)) := (Chg.refl (fun j => j = B) w4).setCell (p := ⟨B, 1, none⟩) (.inr rfl) _
      have hown5 := (hownA.never hc4).keep (O'' := Old w.heap.size) hS (fun j _ hh => .inr hh) (fun j _ hh => .inl hh)
      have hr := (hown4.keep (O'' := Old w3.heap.size) hS (fun j _ hh => by subst hh; exact hBlt) (fun _ _ hh => hh)).rdv
      have hc5 := (hcA.trans hc4).setCell (p := ⟨B, 1, none⟩) (.inl hsz) (.slice ra rn rc)
      have hszw := hcA.size
      have hy : Dat.rd (w4.setCell ⟨B, 1, none⟩ (.slice ra rn rc)) (fun j => Old w.heap.size j ∨ u3.ownBlock = some j) [.string x.path, .slice ra rn rc] x := ⟨_, rfl, hps, hr.sub (fun j _ hh => by
        rcases hh with hh | hh
        · exact Nat.lt_of_lt_of_le hh hszw
        · exact Nat.lt_trans (holt j hh) hBlt)⟩
      clear hr hS hB4 hBX hown4 hc4 hownA hcA hlvA hB5
      go_wp2_with (at_builtin; refine wpList_push (by rfl) _ _ 34 (by rfl) elemOk_file (O := Old w.heap.size) (l := t.take k) (y := x) (by rfl) (by rfl) (by simp) hown5 hy (old_lt hc5) htl ?_; intro v' w6 hown6 hc6 _)
      have hc7 := own_step hc5 hown5 hc6
      clear hc6 hown5 hy
      go_wp2_with fail
      go_roundw
      case rel => exact ⟨k + 1, by omega, by go_num, hc7, by rw [HT.out]; exact hown6⟩
      case measure => simp [intOf] <;> omega
    · rw [List.take_of_length_le (by omega)] at hown
      go_wp2_with fail
      go_ret
      exact ⟨_, rfl, hc, hown⟩
end Go.Proofs.YtibeddcebefbjaaDoor
namespace Go.Proofs.YtibeddcebefbjaaDoor

theorem place_cons (x : File) (r : List File) (p : ByteArray) : placeOf (x :: r) p = if x.path = p then some 0 else (placeOf r p).map (· + 1) := by
  unfold placeOf
  rw [List.findIdx?_cons]
  by_cases h : x.path = p
  · rw [if_pos h, decide_eq_true h]; rfl
  · rw [if_neg h, decide_eq_false h]; rfl
/-- a place and a lookup are the same -/
theorem place_look : ∀ (t : List File) (p : ByteArray), (placeOf t p = none ∧ look t p = none) ∨ ∃ i f, placeOf t p = some i ∧ t[i]? = some f ∧ look t p = some f.lines
  | [], p => .inl ⟨rfl, rfl⟩
  | x :: r, p => by
    rw [place_cons, look_cons]
    by_cases h : x.path = p
    · exact .inr ⟨0, x, if_pos h, rfl, if_pos h⟩
    · rw [if_neg h, if_neg h]
      rcases place_look r p with ⟨h1, h2⟩ | ⟨i, f, h1, h2, h3⟩
      · exact .inl ⟨by rw [h1]; rfl, h2⟩
      · exact .inr ⟨i + 1, f, by rw [h1]; rfl, by rw [List.getElem?_cons_succ]; exact h2, h3⟩
theorem placeI_look (t : List File) (p : ByteArray) : (placeI t p = -1 ∧ look t p = none) ∨ ∃ (i : Nat) (f : File), placeI t p = i ∧ t[i]? = some f ∧ look t p = some f.lines := by
  rcases place_look t p with ⟨h1, h2⟩ | ⟨i, f, h1, h2, h3⟩
  · exact .inl ⟨by unfold placeI; rw [h1], h2⟩
  · exact .inr ⟨i, f, by unfold placeI; rw [h1], h2, h3⟩
theorem allOf_len : ∀ (b a : List File), Sorted a → (allOf a b).length ≤ a.length + b.length
  | [], a, _ => Nat.le_refl _
  | x :: r, a, h => by
    have := allOf_len r (putAt a x) (putAt_sorted h x)
    have e := putAt_len h x
    have : (putAt a x).length ≤ a.length + 1 := by rw [e]; split <;> omega
    show (allOf (putAt a x) r).length ≤ _
    rw [List.length_cons]; omega
theorem all_step (a b : List File) {k : Nat} {x : File} (h : b[k]? = some x) : allOf a (b.take (k + 1)) = putAt (allOf a (b.take k)) x := by
  unfold allOf
  rw [List.take_add_one, h, List.foldl_append]; rfl
theorem sorted_take {b : List File} (h : Sorted b) (k : Nat) : Sorted (b.take k) := List.Pairwise.sublist (List.take_sublist _ _) h
/-- each of all is in one of both -/
theorem all_known {a b : List File} (h : Sorted a) (g : Sorted b) {f : File} (hf : f ∈ allOf a b) : ¬ (look a f.path = none ∧ look b f.path = none) := by
  rintro ⟨h1, h2⟩
  have e := look_mem (all_sorted b a h) hf
  rw [all_look _ b a h g, h1, h2] at e
  cases e
theorem flat_take {β : Type} {g : File → List β} {l : List File} {k : Nat} {x : File} (h : l[k]? = some x) : (l.take (k + 1)).flatMap g = (l.take k).flatMap g ++ g x := by
  rw [List.take_add_one, h, List.flatMap_append]; simp
theorem fileFault_lines {f : File} (h : fileFault f = 0) : linesFault f.lines = 0 := by
  unfold fileFault at h
  by_cases e : pathFault f.path = 0
  · rwa [if_pos e] at h
  · rw [if_neg e] at h; exact absurd h e
theorem checked_zero {x y : List ByteArray} (h : linesFault x = 0) (g : linesFault y = 0) : checkedFault x y = 0 := by unfold checkedFault; rw [if_pos h]; exact g
/-- of valid lines Make tells no fault -/
theorem make_valid {x y : List ByteArray} {n : Int} (h : linesFault x = 0) (g : linesFault y = 0) (n0 : 0 ≤ n) (n1 : n ≤ 1000) : makeFault x y n = 0 ∧ makeR x y n = cutOf (script x y) n := by
  have hc := checked_zero h g
  have hs := script_valid hc
  have e1 : (oldOf (script x y)).length = oldN (script x y) := rfl
  have e2 : (newOf (script x y)).length = newN (script x y) := rfl
  rw [script_old] at e1
  rw [script_new] at e2
  have l1 := linesFault_len h
  have l2 := linesFault_len g
  have hcut : cutFault (script x y) n = 0 := by
    unfold cutFault
    rw [if_neg (by rw [hs]; decide), if_neg (by omega), if_neg (by omega)]
  exact ⟨by unfold makeFault; rw [if_neg (by rw [hc]; decide)]; exact hcut, by unfold makeR cutR; rw [if_pos hc, if_pos hcut]⟩
/-! ### what lies between, step by step -/
theorem diffL_take {n : Int} {x : File} {a b : List File} (h : b = [] ∨ ∃ y r, b = y :: r ∧ less x.path y.path = true) : diffL n (x :: a) b = ⟨3, x.path, wholeR x.lines 45⟩ :: diffL n a b := by
  rcases h with rfl | ⟨y, r, rfl, h⟩
  · rw [diffL]
  · rw [diffL, if_pos h]
theorem diffL_put {n : Int} {y : File} {a b : List File} (h : a = [] ∨ ∃ x r, a = x :: r ∧ ¬ less x.path y.path = true ∧ less y.path x.path = true) : diffL n a (y :: b) = ⟨2, y.path, wholeR y.lines 43⟩ :: diffL n a b := by
  rcases h with rfl | ⟨x, r, rfl, h, g⟩
  · rw [diffL]
  · rw [diffL, if_neg h, if_pos g]
theorem diffL_both {n : Int} {x y : File} {a b : List File} (h : ¬ less x.path y.path = true) (g : ¬ less y.path x.path = true) : diffL n (x :: a) (y :: b) = chg n x.path (some x.lines) (some y.lines) ++ diffL n a b := by
  rw [diffL, if_neg h, if_neg g]
theorem diffL_nil (n : Int) : diffL n [] [] = [] := by rw [diffL]
theorem chg_none {n : Int} {p : ByteArray} {x y : List ByteArray} (h : cutOf (script x y) n = []) : chg n p (some x) (some y) = [] := if_pos h
theorem chg_some {n : Int} {p : ByteArray} {x y : List ByteArray} (h : cutOf (script x y) n ≠ []) : chg n p (some x) (some y) = [⟨1, p, cutOf (script x y) n⟩] := if_neg h
end Go.Proofs.YtibeddcebefbjaaDoor
namespace Go.Proofs.YtibeddcebefbjaaDoor
open Go.RowKit

theorem apply_step {T : List File} {p : List Change} {k : Nat} {c : Change} (hd : p.drop k = c :: p.drop (k + 1)) (hz : (stepOf (look T c.path) c).2 = 0) : applyGo k T (p.drop k) = applyGo (k + 1) (setAt T c.path (stepOf (look T c.path) c).1) (p.drop (k + 1)) := by
  rw [hd, applyGo, if_neg (by rw [hz]; decide)]
theorem apply_bad {T : List File} {p : List Change} {k : Nat} {c : Change} (hd : p.drop k = c :: p.drop (k + 1)) (hz : (stepOf (look T c.path) c).2 ≠ 0) : applyGo k T (p.drop k) = ([], k, (stepOf (look T c.path) c).2) := by
  rw [hd, applyGo, if_pos hz]
theorem apply_end {T : List File} {p : List Change} : applyGo p.length T (p.drop p.length) = (T, 0, 0) := by rw [List.drop_length]; rfl
theorem find_is {T : List File} (hs : Sorted T) {p : ByteArray} (h : isAt T p = true) : ∃ f, T[posOf T p]? = some f ∧ f.path = p ∧ look T p = some f.lines ∧ posOf T p < T.length := by
  unfold isAt at h
  cases hf : T[posOf T p]? with
  | none => rw [hf] at h; cases h
  | some f =>
    rw [hf, Option.any_some] at h
    have hp := of_decide_eq_true h
    have := look_mem hs (List.mem_of_getElem? hf)
    rw [hp] at this
    exact ⟨f, rfl, hp, this, (List.getElem?_eq_some_iff.1 hf).1⟩
theorem find_not {T : List File} (hs : Sorted T) {p : ByteArray} (h : isAt T p = false) : look T p = none ∧ posOf T p ≤ T.length := by
  obtain ⟨A, C, h1, h2, _, _, h5, h6⟩ := tree_split hs p
  rcases h6 with ⟨h6, _⟩ | ⟨_, rfl⟩
  · rw [h6] at h; cases h
  · refine ⟨look_none fun x hx => ?_, by rw [h5, List.length_append]; omega⟩
    rcases List.mem_append.1 hx with hx | hx
    · exact less_ne (h1 x hx)
    · exact (less_ne (h2 x hx)).symm
theorem set_put {T : List File} {p : ByteArray} {l : List ByteArray} (h : isAt T p = false) : setAt T p (some l) = insAt T (posOf T p) ⟨p, l⟩ := by
  show putAt T ⟨p, l⟩ = _
  unfold putAt insAt
  rw [if_neg (by rw [h]; decide)]
theorem set_edit {T : List File} {p : ByteArray} {l : List ByteArray} (h : isAt T p = true) (hl : posOf T p < T.length) : setAt T p (some l) = insAt (dropAt T (posOf T p)) (posOf T p) ⟨p, l⟩ := by
  show putAt T ⟨p, l⟩ = _
  unfold putAt insAt dropAt
  have e : (T.take (posOf T p)).length = posOf T p := by rw [List.length_take]; omega
  rw [if_pos h]
  show _ = (T.take (posOf T p) ++ T.drop (posOf T p + 1)).take (posOf T p) ++ ⟨p, l⟩ :: (T.take (posOf T p) ++ T.drop (posOf T p + 1)).drop (posOf T p)
  congr 1
  · conv => rhs; arg 1; rw [← e]
    rw [List.take_left]
  · congr 1
    conv => rhs; arg 1; rw [← e]
    rw [List.drop_left]
theorem ins_len {T : List File} {i : Nat} {f : File} (h : i ≤ T.length) : (insAt T i f).length = T.length + 1 := by unfold insAt; rw [List.length_append, List.length_take, List.length_cons, List.length_drop]; omega
theorem drop_len {T : List File} {i : Nat} (h : i < T.length) : (dropAt T i).length = T.length - 1 := by unfold dropAt; rw [List.length_append, List.length_take, List.length_drop]; omega
theorem done_ok {there : Bool} {L : List ByteArray} {c : Change} (z : (doneR there L c).2.2 = 0) : (c.what = 2 → there = false) ∧ (c.what ≠ 2 → there = true) ∧ (doneR there L c).2.1 = decide (c.what ≠ 3) := by
  unfold doneR at z ⊢
  by_cases h1 : c.what = 2 ∧ there = true
  · rw [if_pos h1] at z; cases z
  · rw [if_neg h1] at z ⊢
    by_cases h2 : c.what ≠ 2 ∧ there = false
    · rw [if_pos h2] at z; cases z
    · rw [if_neg h2] at z ⊢
      by_cases h3 : (strict L c.hunks).2.2 ≠ 0
      · rw [if_pos h3] at z; exact absurd z h3
      · rw [if_neg h3] at z ⊢
        by_cases h4 : c.what = 3 ∧ (strict L c.hunks).1 ≠ []
        · rw [if_pos h4] at z; cases z
        · rw [if_neg h4]
          refine ⟨fun e => ?_, fun e => ?_, rfl⟩
          · cases there with
            | false => rfl
            | true => exact absurd ⟨e, rfl⟩ h1
          · cases there with
            | true => rfl
            | false => exact absurd ⟨e, rfl⟩ h2
theorem applyR_tree {t : List File} {p : List Change} (h : (treeFault t).2 ≠ 0) : applyR t p = ([], 0, (treeFault t).2) := if_pos h
theorem applyR_patch {t : List File} {p : List Change} (h : (treeFault t).2 = 0) (g : (patchFault p).2 ≠ 0) : applyR t p = ([], (patchFault p).1, (patchFault p).2) := by unfold applyR; rw [if_neg (by rw [h]; decide), if_pos g]
theorem applyR_go {t : List File} {p : List Change} (h : (treeFault t).2 = 0) (g : (patchFault p).2 = 0) {r : List File} {k : Nat} {e : Int} (x : applyGo 0 t p = (r, k, e)) : applyR t p = if e ≠ 0 then (r, k, e) else if 8 < r.length then ([], 0, 3) else (r, 0, 0) := by
  unfold applyR; rw [if_neg (by rw [h]; decide), if_neg (by rw [g]; decide), x]
def ApplyPost (t : List File) (p : List Change) (w : World) (e : Ending) (w' : World) : Prop := ∃ r, e = .returned (.tuple #[r, .int .i64 (applyR t p).2.1, errV (applyR t p).2.2]) ∧ Chg Never w w' ∧ Rdv w' Never r (applyR t p).1
theorem applyPost_bad {t : List File} {p : List Change} {k : Nat} {e : Int} {w w' : World} (h : applyR t p = ([], k, e)) (hc : Chg Never w w') : ApplyPost t p w (.returned (.tuple #[.slice none 0 0, .int .i64 k, errV e])) w' :=
  ⟨_, by rw [h], hc, by rw [h]; exact rdv_nil _ _⟩
theorem applyPost_ok {t R : List File} {p : List Change} {w w' : World} {r : Value} (h : applyR t p = (R, 0, 0)) (hc : Chg Never w w') (hr : Rdv w' Never r R) : ApplyPost t p w (.returned (.tuple #[r, .int .i64 0, .nilIface])) w' :=
  ⟨r, by rw [h]; rfl, hc, by rw [h]; exact hr⟩
theorem own_weak {α : Type} [Dat α] {e : TypeId} {w0 w w' : World} {v : Value} {l : List α} (h : Own e w' (Old w.heap.size) v l) (hc : Chg Never w0 w) (hc' : Chg Never w w') : OwnN e w0 w' v l :=
  ⟨h.keep (O'' := Never) (Chg.refl Never w') (fun _ _ h => h.elim) (fun _ _ h => h.elim), fun k hk => by
    obtain ⟨_, _, q, _⟩ := h
    have := q k hk
    have hs := hc.size
    unfold Old at this
    omega, hc.trans hc'⟩
set_option maxHeartbeats 4000000 in
set_option maxRecDepth 100000 in
theorem apply_any (t : List File) (p : List Change) (vt vp : Value) (w : World) (ht : Rdv w Never vt t) (hp : Rdv w Never vp p) (m : Int) (hm : w.cell? ⟨1, 0, none⟩ = some (.int .i64 m)) :
    Calls Tryd.prog 26 #[vt, vp] w fun e w' => ApplyPost t p w e w' := by
  obtain ⟨ta, tcap, rfl, _, _, _⟩ := rdv_slice ht
  obtain ⟨pa, pcap, rfl, p1, p2, _⟩ := rdv_slice hp
  unfold maxLen at p2
  by_cases z : (treeFault t).2 = 0
  · have Z := Lib.hid z
    by_cases y : (patchFault p).2 = 0
    · have Y := Lib.hid y
      have t8 := (treeFault_zero z).1
      have tl := (treeFault_zero z).2.1
      have tsrt := Lib.hid (treeFault_zero z).2.2.1
      have pl := (patch_of y).1
      have tl60 : ∀ f ∈ t, f.lines.length ≤ 1000000 := fun f hf => by
        have := linesFault_len (fileFault_lines (tl f hf))
        omega
      clear z y tl
      go_enter Tryd.func26, Tryd.ntmps26
      go_wp2_with fail
      refine (tree_check_any t _ _ ht m hm).mono ?_
      rintro e w1 ⟨rfl, hw⟩
      rw [Z.out, errV_zero]
      go_wp2_with fail
      refine (patch_check_any p _ _ (hp.never hw) m (hw.cellNever hm)).mono ?_
      rintro e w2 ⟨rfl, hc2⟩
      have hw := hw.trans hc2
      clear hc2
      rw [Y.out, errV_zero]
      go_wp2_with fail
      refine (tree_copy_any t _ _ (ht.never hw) (by omega) tl60).mono ?_
      rintro e w3 ⟨r3, rfl, hc3, hown⟩
      have hn0 := own_weak hown hw hc3
      clear hown hc3 hw tl60
      go_wp2_with fail
      go_loopw [11, 40] (fun v i wr => ∃ (k : Nat) (T : List File), k ≤ p.length ∧ i = .int .i64 k ∧ OwnN 37 w wr v T ∧ Hid (Sorted T) ∧ T.length ≤ 8 + k ∧ Hid (applyGo k T (p.drop k) = applyGo 0 t p)) (fun _ i _ => p.length - (intOf i).toNat)
      case atStart => exact ⟨0, t, Nat.zero_le _, rfl, hn0, tsrt, by omega, rfl⟩
      case round =>
        clear hn0
        rename World => wr
        obtain ⟨k, T, hk, rfl, hn, hS, hTl, hG⟩ := hrel
        obtain ⟨oa, ocap, rfl, o1, o2, o3⟩ := rdv_slice hn.own.rdv
        unfold maxLen at o2
        have hT : T.length ≤ 1000000 := by omega
        by_cases hlt : k < p.length
        · obtain ⟨c, hx⟩ : ∃ c, p[k]? = some c := ⟨p[k], by simp [hlt]⟩
          obtain ⟨_, _, hpa, _, _, p3⟩ := rdv_slice hp
          injection hpa with hpa1 hpa2 hpa3
          subst hpa1
          clear hpa2 hpa3
          obtain ⟨pb, po, hv, rfl, _, _, c0, c1, c2, hpc, hhv⟩ := elems_change p3 hx
          obtain ⟨ha, hcap, rfl, _, _, _⟩ := rdv_slice hhv
          have hhv := Lib.hid hhv
          have c0 := hn.chg.cellNever c0
          have c1 := hn.chg.cellNever c1
          have c2 := hn.chg.cellNever c2
          have HD := Lib.hid (drop_eq hx)
          obtain ⟨hA, d0, d1, d2⟩ := box1_change wr 60 c.what c.path (.slice ha c.hunks.length hcap) _ rfl
          have DS := Lib.hid (done_step (look T c.path) c)
          clear hx p3
          cases hi : isAt T c.path with
          | true =>
            obtain ⟨f, hf, hfp, hlk, hpos⟩ := find_is hS.out hi
            have IS := Lib.hid hi
            rw [hlk] at DS
            have HLK := Lib.hid hlk
            obtain ⟨fb, fo, flv, rfl, _, _, _, f1, _, hfl⟩ := elems_file o3 hf
            clear hi hf hlk o3 hfp
            have F1 := Lib.hid f1
            clear f1
            go_wp2_with fail
            generalize wr.alloc (.cells #[.int .i64 c.what, .string c.path, .slice ha c.hunks.length hcap] 60) = wA at hA d0 d1 d2 ⊢
            have hnA := hn.never hA
            have HLT := own_block_lt hn.own
            clear hn c0 c1 c2
            refine (find_any T c.path _ _ (hnA.own.rdv.sub (fun _ _ h => h.elim)) hS.out hT).mono ?_
            rintro e w4 ⟨rfl, hc4⟩
            have hn4 := hnA.never hc4
            have d0 := hc4.cellNever d0
            have d1 := hc4.cellNever d1
            have d2 := hc4.cellNever d2
            have hQ := hA.trans hc4
            clear hnA hA hc4
            rw [IS.out]
            have f1 := hQ.cellNever F1.out
            have hfl4 := (hfl.never hQ).sub (O' := Never) (fun _ _ h => h.elim)
            go_wp2_with fail
            refine (done_any true f.lines c _ _ _ (hfl4) (hhv.out.never hn4.chg)).mono ?_
            rintro e w5 ⟨r5, rfl, hc5, hr5⟩
            have hnD := hn4.never hc5
            have d0 := hc5.cellNever d0
            have d1 := hc5.cellNever d1
            have d2 := hc5.cellNever d2
            obtain ⟨ra, rc, rfl, _, _, _⟩ := rdv_slice hr5
            clear f1 hfl4
            have HST : Hid ((stepOf (look T c.path) c).2 = (doneR true f.lines c).2.2) := by rw [Hid, HLK.out, DS.out]; rfl
            by_cases hst : (stepOf (look T c.path) c).2 = 0
            · have hd0 := hst
              rw [HST.out] at hd0
              have HST0 := Lib.hid hst
              have HD0 := Lib.hid hd0
              obtain ⟨q1, q2, q3⟩ := done_ok hd0
              have k2 : c.what ≠ 2 := fun e => absurd (q1 e) (by decide)
              have t2 : (c.what == 2) = false := by simp [k2]
              have t2' : (c.what != 2) = true := by simp [k2]
              have hrf := hn4.fresh hr5
              have HSS0 : Hid (Sorted (setAt T c.path (stepOf (look T c.path) c).1)) := setAt_sorted hS.out (step_at hS.out (Prod.ext rfl HST0.out))
              have HNX0 : Hid (applyGo (k + 1) (setAt T c.path (stepOf (look T c.path) c).1) (p.drop (k + 1)) = applyGo 0 t p) := by rw [Hid, ← apply_step HD.out HST0.out]; exact hG.out
              have hdl := drop_len hpos
              rw [HD0.out, errV_zero]
              by_cases k3 : c.what = 3
              · have q3' : (doneR true f.lines c).2.1 = false := by rw [q3, k3]; rfl
                have HSET : Hid (setAt T c.path (stepOf (look T c.path) c).1 = dropAt T (posOf T c.path)) := by
                  rw [Hid, HLK.out, DS.out]
                  show setAt T c.path (if (doneR true f.lines c).2.1 = true then some (doneR true f.lines c).1 else none) = _
                  rw [if_neg (by rw [q3']; decide)]; rfl
                rw [q3']
                clear hst hd0 q1 q2 q3 q3' k2 k3 hr5 hc5 hrf d1 d2
                go_wp2_with fail
                refine (delete_any T (posOf T c.path) _ w w5 hnD hpos hT).mono ?_
                rintro e w8 ⟨r8, rfl, hn8, _, _⟩
                obtain ⟨va8, vn8, vc8, rfl⟩ := own_isSlice hn8.own
                clear d0 hnD hn4
                go_wp2_with fail
                go_roundw
                case rel => exact ⟨k + 1, _, by omega, by go_num, hn8, by rw [← HSET.out]; exact HSS0, by omega, by rw [← HSET.out]; exact HNX0⟩
                case measure => simp [intOf] <;> omega
              · have q3' : (doneR true f.lines c).2.1 = true := by rw [q3]; exact decide_eq_true k3
                have HSET : Hid (setAt T c.path (stepOf (look T c.path) c).1 = insAt (dropAt T (posOf T c.path)) (posOf T c.path) ⟨c.path, (doneR true f.lines c).1⟩) := by
                  rw [Hid, HLK.out, DS.out]
                  show setAt T c.path (if (doneR true f.lines c).2.1 = true then some (doneR true f.lines c).1 else none) = _
                  rw [if_pos q3', set_edit IS.out hpos]
                have HIL := Lib.hid (ins_len (T := dropAt T (posOf T c.path)) (i := posOf T c.path) (f := ⟨c.path, (doneR true f.lines c).1⟩) (by omega))
                rw [q3']
                clear hst hd0 q1 q2 q3 q3' k2 k3 hr5 hc5 d2
                go_wp2_with fail
                refine (delete_any T (posOf T c.path) _ w w5 hnD hpos hT).mono ?_
                rintro e w8 ⟨r8, rfl, hn8, hch8, hob8⟩
                have d1 := hch8.cell d1 (fun h => absurd (HLT _ h) (Nat.lt_irrefl _))
                have hrf8 := hrf.keep (O'' := fun k => Never k ∨ r8.ownBlock = some k) hch8 (fun k _ h => .inr h) (fun k _ h => h.imp_right (hob8 k))
                have hlt8 := own_block_lt hn8.own
                obtain ⟨va8, vn8, vc8, rfl⟩ := own_isSlice hn8.own
                clear d0 hnD hn4 hrf hch8 hob8
                have hnB := heap_alloc_new w8 (.cells #[.string c.path, .slice ra (doneR true f.lines c).1.length rc] 37)
                have hAB : Chg Never w8 (w8.alloc (.cells #[.string c.path, .slice ra (doneR true f.lines c).1.length rc] 37)) := (Chg.refl Never w8).alloc _
                go_wp2_with fail
                generalize w8.alloc (.cells #[.string c.path, .slice ra (doneR true f.lines c).1.length rc] 37) = wB at hnB hAB ⊢
                refine (insert_any (dropAt T (posOf T c.path)) (posOf T c.path) ⟨c.path, (doneR true f.lines c).1⟩ _ (.slice ra (doneR true f.lines c).1.length rc) w wB w8.heap.size 37 (hn8.never hAB) (by omega) (by omega) hnB (fun k hk e => absurd (hlt8 k hk) (by rw [e]; omega)) ⟨_, rfl, hpc, hrf8.never hAB⟩).mono ?_
                rintro e w9 ⟨r9, rfl, hn9⟩
                obtain ⟨va9, vn9, vc9, rfl⟩ := own_isSlice hn9.own
                clear hnB hAB d1 hrf8 hn8
                go_wp2_with fail
                go_roundw
                case rel => exact ⟨k + 1, _, by omega, by go_num, hn9, by rw [← HSET.out]; exact HSS0, by rw [HIL.out]; omega, by rw [← HSET.out]; exact HNX0⟩
                case measure => simp [intOf] <;> omega
            · have E := applyPost_bad (w := w) (applyR_go Z.out Y.out (by rw [← hG.out]; exact apply_bad HD.out hst) |>.trans (if_pos hst)) hnD.chg
              have hst' := hst
              rw [HST.out] at E hst'
              rw [errV_pos hst'] at E ⊢
              clear hst hst' d0 d1 d2
              go_wp2_with fail
              go_ret3
              exact E
          | false =>
            obtain ⟨hlk, hpos⟩ := find_not hS.out hi
            have IS := Lib.hid hi
            rw [hlk] at DS
            have HLK := Lib.hid hlk
            clear hi hlk o3
            go_wp2_with fail
            generalize wr.alloc (.cells #[.int .i64 c.what, .string c.path, .slice ha c.hunks.length hcap] 60) = wA at hA d0 d1 d2 ⊢
            have hnA := hn.never hA
            have HLT := own_block_lt hn.own
            clear hn c0 c1 c2
            refine (find_any T c.path _ _ (hnA.own.rdv.sub (fun _ _ h => h.elim)) hS.out hT).mono ?_
            rintro e w4 ⟨rfl, hc4⟩
            have hn4 := hnA.never hc4
            have d0 := hc4.cellNever d0
            have d1 := hc4.cellNever d1
            have d2 := hc4.cellNever d2
            have hQ := hA.trans hc4
            clear hnA hA hc4
            rw [IS.out]
            go_wp2_with fail
            refine (done_any false ([] : List ByteArray) c _ _ _ ((rdv_nil _ _)) (hhv.out.never hn4.chg)).mono ?_
            rintro e w5 ⟨r5, rfl, hc5, hr5⟩
            have hnD := hn4.never hc5
            have d0 := hc5.cellNever d0
            have d1 := hc5.cellNever d1
            have d2 := hc5.cellNever d2
            obtain ⟨ra, rc, rfl, _, _, _⟩ := rdv_slice hr5
            have HST : Hid ((stepOf (look T c.path) c).2 = (doneR false [] c).2.2) := by rw [Hid, HLK.out, DS.out]; rfl
            by_cases hst : (stepOf (look T c.path) c).2 = 0
            · have hd0 := hst
              rw [HST.out] at hd0
              have HST0 := Lib.hid hst
              have HD0 := Lib.hid hd0
              obtain ⟨q1, q2, q3⟩ := done_ok hd0
              have k2 : c.what = 2 := by
                by_cases e : c.what = 2
                · exact e
                · exact absurd (q2 e) (by decide)
              have q3' : (doneR false [] c).2.1 = true := by rw [q3, k2]; rfl
              have t2 : (c.what == 2) = true := by simp [k2]
              have hrf := hn4.fresh hr5
              have HSET : Hid (setAt T c.path (stepOf (look T c.path) c).1 = insAt T (posOf T c.path) ⟨c.path, (doneR false [] c).1⟩) := by
                rw [Hid, HLK.out, DS.out]
                show setAt T c.path (if (doneR false [] c).2.1 = true then some (doneR false [] c).1 else none) = _
                rw [if_pos q3', set_put IS.out]
              have HNX : Hid (applyGo (k + 1) (insAt T (posOf T c.path) ⟨c.path, (doneR false [] c).1⟩) (p.drop (k + 1)) = applyGo 0 t p) := by rw [Hid, ← HSET.out, ← apply_step HD.out HST0.out]; exact hG.out
              have HSS : Hid (Sorted (insAt T (posOf T c.path) ⟨c.path, (doneR false [] c).1⟩)) := by
                rw [Hid, ← HSET.out]
                exact setAt_sorted hS.out (step_at hS.out (Prod.ext rfl HST0.out))
              have HIL := Lib.hid (ins_len (T := T) (f := ⟨c.path, (doneR false [] c).1⟩) hpos)
              rw [HD0.out, errV_zero, q3']
              clear hst hd0 q1 q2 q3 q3' k2 hr5 hc5 HSET
              have hlt8 := own_block_lt hnD.own
              have hnB := heap_alloc_new w5 (.cells #[.string c.path, .slice ra (doneR false [] c).1.length rc] 37)
              have hAB : Chg Never w5 (w5.alloc (.cells #[.string c.path, .slice ra (doneR false [] c).1.length rc] 37)) := (Chg.refl Never w5).alloc _
              go_wp2_with fail
              generalize w5.alloc (.cells #[.string c.path, .slice ra (doneR false [] c).1.length rc] 37) = wB at hnB hAB ⊢
              refine (insert_any T (posOf T c.path) ⟨c.path, (doneR false [] c).1⟩ _ (.slice ra (doneR false [] c).1.length rc) w wB w5.heap.size 37 (hnD.never hAB) hpos hT hnB (fun k hk e => absurd (hlt8 k hk) (by rw [e]; omega)) ⟨_, rfl, hpc, hrf.never hAB⟩).mono ?_
              rintro e w8 ⟨r8, rfl, hn8⟩
              obtain ⟨va8, vn8, vc8, rfl⟩ := own_isSlice hn8.own
              clear hnB hAB d0 d1 d2 hrf hnD hn4
              go_wp2_with fail
              go_roundw
              case rel => exact ⟨k + 1, _, by omega, by go_num, hn8, HSS, by rw [HIL.out]; omega, HNX⟩
              case measure => simp [intOf] <;> omega
            · have E := applyPost_bad (w := w) (applyR_go Z.out Y.out (by rw [← hG.out]; exact apply_bad HD.out hst) |>.trans (if_pos hst)) hnD.chg
              have hst' := hst
              rw [HST.out] at E hst'
              rw [errV_pos hst'] at E ⊢
              clear hst hst' d0 d1 d2
              go_wp2_with fail
              go_ret3
              exact E
        · obtain rfl : k = p.length := by omega
          have hGo := hG.out
          rw [apply_end] at hGo
          have hR := applyR_go Z.out Y.out hGo.symm
          rw [if_neg (by decide)] at hR
          by_cases h8 : 8 < T.length
          · rw [if_pos h8] at hR
            have E := applyPost_bad (k := 0) hR hn.chg
            rw [errV_pos (by decide)] at E
            clear hR hGo hG
            go_wp2_with fail
            go_ret3
            exact E
          · rw [if_neg h8] at hR
            have HR := Lib.hid hR
            have hr := hn.own.rdv.sub (O' := Never) (fun _ _ h => h.elim)
            clear hR hGo hG
            go_wp2_with fail
            go_ret3
            exact applyPost_ok HR.out hn.chg hr
    · have HE := Lib.hid (applyR_patch z y)
      have Y := Lib.hid y
      have Z := Lib.hid z
      clear z y
      go_enter Tryd.func26, Tryd.ntmps26
      go_wp2_with fail
      refine (tree_check_any t _ _ ht m hm).mono ?_
      rintro e w1 ⟨rfl, hw⟩
      rw [Z.out, errV_zero]
      go_wp2_with fail
      refine (patch_check_any p _ _ (hp.never hw) m (hw.cellNever hm)).mono ?_
      rintro e w2 ⟨rfl, hc2⟩
      have E := applyPost_bad HE.out (hw.trans hc2)
      rw [errV_pos Y.out] at E ⊢
      go_wp2_with fail
      go_ret3
      exact E
  · have HE := Lib.hid (applyR_tree (p := p) z)
    have Z := Lib.hid z
    clear z
    go_enter Tryd.func26, Tryd.ntmps26
    go_wp2_with fail
    refine (tree_check_any t _ _ ht m hm).mono ?_
    rintro e w1 ⟨rfl, hw⟩
    have E := applyPost_bad HE.out hw
    rw [errV_pos Z.out] at E ⊢
    go_wp2_with fail
    go_ret3
    exact E
end Go.Proofs.YtibeddcebefbjaaDoor
