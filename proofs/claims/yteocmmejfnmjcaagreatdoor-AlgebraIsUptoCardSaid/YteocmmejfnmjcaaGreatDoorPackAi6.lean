/-
  PARTS: CHANGES AS CELLS, and handstitchsame.Patches.; TREES BY WHAT IS LOOKED UP IN THEM, in plain Lean: what put and drop do to each path; two trees in which each path reads the same are the same.; WHAT LIES BETWEEN TWO TREES, in plain Lean: file by file of two sorted lists; the document's way by all paths of both is the same.; PATCHES, in plain Lean (chapter 2): what may be one, what is done to a tree, turned it leads back.; THE WALKS of patch.whole, shape, one, Check.; THE WALKS of patch.shape, one, Check.; THE SHAPE OF A CHANGE AS THE DOCUMENT ASKS FOR IT, in plain Lean.
-/
import Derived.Test.YteocmmejfnmjcaaGreatDoorPackAi5
import Derived.Test.YteocmmejfnmjcaaGreatDoorPackAi3
import Derived.StillTailTactics
import Derived.Test.YteocmmejfnmjcaaGreatDoorPackAi4
import Derived.Test.YteocmmejfnmjcaaGreatDoorPackAi2
import Derived.BigQuiet
namespace Go.Proofs.YteocmmejfnmjcaaGreatDoor
open Go.RowKit

theorem elemOk_change : ElemOk Tryz.prog 23 36 3 := elemOk_of Tryz.underlying23 (z := .agg #[.int .i64 0, .string ⟨#[]⟩, .slice none 0 0]) (b := 48) (by kernel_rfl) rfl (by decide)
theorem size_change (w : World) : (sizeOf (Tryz.prog.elem 23)).run Tryz.prog w = .ok 3 w := by kernel_rfl
theorem elems_change {w : World} {O : Nat → Prop} {a : Option Addr} {l : List Change} (h : Elems w O a l) {i : Nat} {x : Change} (hx : l[i]? = some x) :
    ∃ b off v, a = some ⟨b, off, none⟩ ∧ ¬ O b ∧ b < w.heap.size ∧ w.cell? ⟨b, off + i * 3, none⟩ = some (.int .i64 x.what) ∧ w.cell? ⟨b, off + i * 3 + 1, none⟩ = some (.string x.path) ∧ w.cell? ⟨b, off + i * 3 + 2, none⟩ = some v ∧ x.path.size ≤ maxLen ∧ Rdv w O v x.hunks := by
  obtain ⟨b, off, es, ha, hb, hcs, v, rfl, hp, hv⟩ := h i x hx
  refine ⟨b, off, v, ha, hb, hcs.lt (by simp), ?_, ?_, ?_, hp, hv⟩
  · simpa [Dat.n] using hcs 0 _ rfl
  · simpa [Dat.n] using hcs 1 _ rfl
  · simpa [Dat.n] using hcs 2 _ rfl

theorem two_keep {w0 w w' : World} {a b : Addr} {x y : Value} (h : Chg Never w0 w ∧ w.cell? a = some x ∧ w.cell? b = some y) (hc : Chg Never w w') : Chg Never w0 w' ∧ w'.cell? a = some x ∧ w'.cell? b = some y :=
  ⟨h.1.trans hc, hc.cellNever h.2.1, hc.cellNever h.2.2⟩

set_option maxHeartbeats 1000000 in
set_option maxRecDepth 100000 in
theorem patches_any (l m : List Change) (v u : Value) (w : World) (h : Rdv w Never v l) (g : Rdv w Never u m) :
    Calls Tryz.prog 17 #[v, u] w fun e w' => e = .returned (.bool (decide (l = m))) ∧ Chg Never w w' := by
  obtain ⟨a, cap, rfl, h1, h2, h3⟩ := rdv_slice h
  obtain ⟨c, cap', rfl, g1, g2, g3⟩ := rdv_slice g
  unfold maxLen at h2 g2
  by_cases h4 : l.length = m.length
  · have h4' : ((l.length : Int) != m.length) = false := by simp [h4]
    have H4 := Lib.hid h4
    clear h4
    go_enter Tryz.func17, Tryz.ntmps17
    go_wp2_with fail
    go_loopw [5] (fun i wr => ∃ k : Nat, k ≤ l.length ∧ i = .int .i64 k ∧ Hid (l.take k = m.take k) ∧ Chg Never w wr) (fun i _ => l.length - (intOf i).toNat)
    case atStart => exact ⟨0, Nat.zero_le _, rfl, by simp [Hid], Chg.refl _ _⟩
    case round =>
      obtain ⟨k, hk, rfl, hf, hc⟩ := hrel
      by_cases hlt : k < l.length
      · obtain ⟨x, hx⟩ : ∃ x, l[k]? = some x := ⟨l[k], by simp [hlt]⟩
        obtain ⟨y, hy⟩ : ∃ y, m[k]? = some y := ⟨m[k]'(by rw [← H4.out]; exact hlt), by simp [H4.out ▸ hlt]⟩
        obtain ⟨b, off, mv, rfl, _, _, c0, c1, c2, _, hmv⟩ := elems_change h3 hx
        obtain ⟨b', off', mv', rfl, _, _, d0, d1, d2, _, hmv'⟩ := elems_change g3 hy
        have C0 := Lib.hid c0
        have D0 := Lib.hid d0
        have C1 := Lib.hid c1
        have D1 := Lib.hid d1
        have c2 := hc.cellNever c2
        have d2 := hc.cellNever d2
        have hmv := hmv.never hc
        have hmv' := hmv'.never hc
        clear h3 g3 h g c0 d0 c1 d1
        have hlm : k < m.length := by rw [← H4.out]; exact hlt
        have HX := Lib.hid hx
        have HY := Lib.hid hy
        clear hx hy
        have b1 : (k : Int) < l.length := by omega
        have b2 : (k : Int) < m.length := by omega
        by_cases hls : x.hunks = y.hunks
        · by_cases hpp : x.path = y.path
          · by_cases hww : x.what = y.what
            · have hxy : x = y := by
                cases x; cases y
                simp only at hls hpp hww
                rw [hls, hpp, hww]
              have HLS := Lib.hid (decide_eq_true hls)
              have HXY := Lib.hid hxy
              have t1 : (x.path.toList == y.path.toList) = true := by rw [hpp]; exact beq_self_eq_true _
              have t2 : (x.what == y.what) = true := by simp [hww]
              clear hls hpp hww hxy
              go_wp2_with fail
              refine wp_region_still_tail 10 (by kernel_rfl) (by kernel_rfl) ?_
              simp only [List.take_succ_cons, List.take_zero, List.drop_succ_cons, List.drop_zero]
              change wpStill _ _ wr.drew _ _ _
              repeat still_step
              refine wpStill_nil ?_
              change wpList _ _ _ _ _ wr.drew
              have hcd : Chg Never w wr.drew := hc.drew
              have hmd := hmv.never ((Chg.refl Never wr).drew)
              have hmd' := hmv'.never ((Chg.refl Never wr).drew)
              generalize wr.drew = w3 at hcd hmd hmd'
              clear hmv hmv' c2 d2 hc
              go_wp2_with fail
              refine (hunks_eq_any x.hunks y.hunks _ _ _ hmd hmd').mono ?_
              rintro e w4 ⟨rfl, hc4⟩
              have hc5 := hcd.trans hc4
              have c0 := hc5.cellNever C0.out
              have d0 := hc5.cellNever D0.out
              have c1 := hc5.cellNever C1.out
              have d1 := hc5.cellNever D1.out
              clear hmd hmd' hcd hc4
              rw [HLS.out]
              go_wp2_with fail
              go_quiet (fail)
              go_wp2_with fail
              go_roundw
              case rel => exact ⟨k + 1, by omega, by go_num, take_same hf HX.out (by rw [HXY.out]; exact HY.out), hc5.drewN _⟩
              case measure => simp [intOf] <;> omega
            · have hxy : x ≠ y := fun e => hww (by rw [e])
              have HN := Lib.hid (decide_eq_false (ne_of_get HX.out HY.out hxy))
              have t1 : (x.path.toList == y.path.toList) = true := by rw [hpp]; exact beq_self_eq_true _
              have t2 : (x.what == y.what) = false := by simp [hww]
              have HLS := Lib.hid (decide_eq_true hls)
              clear hls hpp hww hxy
              go_wp2_with fail
              refine wp_region_still_tail 10 (by kernel_rfl) (by kernel_rfl) ?_
              simp only [List.take_succ_cons, List.take_zero, List.drop_succ_cons, List.drop_zero]
              change wpStill _ _ wr.drew _ _ _
              repeat still_step
              refine wpStill_nil ?_
              change wpList _ _ _ _ _ wr.drew
              have hcd : Chg Never w wr.drew := hc.drew
              have hmd := hmv.never ((Chg.refl Never wr).drew)
              have hmd' := hmv'.never ((Chg.refl Never wr).drew)
              generalize wr.drew = w3 at hcd hmd hmd'
              clear hmv hmv' c2 d2 hc
              go_wp2_with fail
              refine (hunks_eq_any x.hunks y.hunks _ _ _ hmd hmd').mono ?_
              rintro e w4 ⟨rfl, hc4⟩
              have hc5 := hcd.trans hc4
              have c0 := hc5.cellNever C0.out
              have d0 := hc5.cellNever D0.out
              have c1 := hc5.cellNever C1.out
              have d1 := hc5.cellNever D1.out
              clear hmd hmd' hcd hc4
              rw [HLS.out]
              go_wp2_with fail
              go_quiet (fail)
              go_wp2_with fail
              go_ret
              exact ⟨by rw [HN.out]; rfl, hc5.drewN _⟩
          · have hxy : x ≠ y := fun e => hpp (by rw [e])
            have t0 := str_beq_false hpp
            have t1 : (x.path.toList != y.path.toList) = true := by show (!(x.path.toList == y.path.toList)) = true; rw [t0]; rfl
            have HN := Lib.hid (decide_eq_false (ne_of_get HX.out HY.out hxy))
            have HLS := Lib.hid (decide_eq_true hls)
            clear hls hpp hxy
            go_wp2_with fail
            refine wp_region_still_tail 10 (by kernel_rfl) (by kernel_rfl) ?_
            simp only [List.take_succ_cons, List.take_zero, List.drop_succ_cons, List.drop_zero]
            change wpStill _ _ wr.drew _ _ _
            repeat still_step
            refine wpStill_nil ?_
            change wpList _ _ _ _ _ wr.drew
            have hcd : Chg Never w wr.drew := hc.drew
            have hmd := hmv.never ((Chg.refl Never wr).drew)
            have hmd' := hmv'.never ((Chg.refl Never wr).drew)
            generalize wr.drew = w3 at hcd hmd hmd'
            clear hmv hmv' c2 d2 hc
            go_wp2_with fail
            refine (hunks_eq_any x.hunks y.hunks _ _ _ hmd hmd').mono ?_
            rintro e w4 ⟨rfl, hc4⟩
            have hc5 := hcd.trans hc4
            have c0 := hc5.cellNever C0.out
            have d0 := hc5.cellNever D0.out
            have c1 := hc5.cellNever C1.out
            have d1 := hc5.cellNever D1.out
            clear hmd hmd' hcd hc4
            rw [HLS.out]
            go_wp2_with fail
            go_quiet (fail)
            go_wp2_with fail
            go_ret
            exact ⟨by rw [HN.out]; rfl, hc5.drewN _⟩
        · have hxy : x ≠ y := fun e => hls (by rw [e])
          have HN := Lib.hid (decide_eq_false (ne_of_get HX.out HY.out hxy))
          have HLS := Lib.hid (decide_eq_false hls)
          clear hls hxy
          go_wp2_with fail
          refine wp_region_still_tail 10 (by kernel_rfl) (by kernel_rfl) ?_
          simp only [List.take_succ_cons, List.take_zero, List.drop_succ_cons, List.drop_zero]
          change wpStill _ _ wr.drew _ _ _
          repeat still_step
          refine wpStill_nil ?_
          change wpList _ _ _ _ _ wr.drew
          have hcd : Chg Never w wr.drew := hc.drew
          have hmd := hmv.never ((Chg.refl Never wr).drew)
          have hmd' := hmv'.never ((Chg.refl Never wr).drew)
          generalize wr.drew = w3 at hcd hmd hmd'
          clear hmv hmv' c2 d2 hc
          go_wp2_with fail
          refine (hunks_eq_any x.hunks y.hunks _ _ _ hmd hmd').mono ?_
          rintro e w4 ⟨rfl, hc4⟩
          have hc5 := hcd.trans hc4
          have c0 := hc5.cellNever C0.out
          have d0 := hc5.cellNever D0.out
          have c1 := hc5.cellNever C1.out
          have d1 := hc5.cellNever D1.out
          clear hmd hmd' hcd hc4
          rw [HLS.out]
          go_wp2_with fail
          go_quiet (fail)
          go_wp2_with fail
          go_ret
          exact ⟨by rw [HN.out]; rfl, hc5.drewN _⟩
      · go_wp2_with fail
        go_ret
        have E : l = m := by
          have := hf.out
          rw [List.take_of_length_le (by omega), List.take_of_length_le (by rw [← H4.out]; omega)] at this
          exact this
        exact ⟨by rw [decide_eq_true E]; rfl, hc⟩
  · have h4' : ((l.length : Int) != m.length) = true := by simp; omega
    go_enter Tryz.func17, Tryz.ntmps17
    go_wp2_with fail
    go_ret
    exact ⟨by rw [decide_eq_false (fun e => h4 (by rw [e]))]; rfl, Chg.refl _ _⟩
end Go.Proofs.YteocmmejfnmjcaaGreatDoor
namespace Go.Proofs.YteocmmejfnmjcaaGreatDoor

def look (t : List File) (p : ByteArray) : Option (List ByteArray) := (t.find? fun f => decide (f.path = p)).map (·.lines)
theorem look_nil (p : ByteArray) : look [] p = none := rfl
theorem look_cons (x : File) (r : List File) (p : ByteArray) : look (x :: r) p = if x.path = p then some x.lines else look r p := by
  unfold look
  by_cases h : x.path = p
  · rw [List.find?_cons_of_pos (by simpa using h), if_pos h]; rfl
  · rw [List.find?_cons_of_neg (by simpa using h), if_neg h]
theorem look_none : ∀ {A : List File} {p : ByteArray}, (∀ x ∈ A, x.path ≠ p) → look A p = none
  | [], _, _ => rfl
  | x :: r, p, h => by rw [look_cons, if_neg (h x (List.mem_cons_self ..)), look_none fun y hy => h y (List.mem_cons_of_mem _ hy)]
theorem look_app : ∀ (A B : List File) (p : ByteArray), look (A ++ B) p = (look A p).or (look B p)
  | [], B, p => by simp [look_nil]
  | x :: A, B, p => by
    rw [List.cons_append, look_cons, look_cons, look_app A B p]
    by_cases h : x.path = p
    · rw [if_pos h, if_pos h]; rfl
    · rw [if_neg h, if_neg h]
theorem look_some : ∀ {A : List File} {p : ByteArray} {l : List ByteArray}, look A p = some l → ∃ x ∈ A, x.path = p ∧ x.lines = l
  | [], _, _, h => by cases h
  | x :: r, p, l, h => by
    rw [look_cons] at h
    by_cases e : x.path = p
    · rw [if_pos e] at h
      exact ⟨x, List.mem_cons_self .., e, Option.some.inj h⟩
    · rw [if_neg e] at h
      obtain ⟨y, hy, h2⟩ := look_some h
      exact ⟨y, List.mem_cons_of_mem _ hy, h2⟩
theorem look_mem {t : List File} (hs : Sorted t) {x : File} (h : x ∈ t) : look t x.path = some x.lines := by
  induction t with
  | nil => cases h
  | cons y r ih =>
    obtain ⟨h1, h2⟩ := List.pairwise_cons.1 hs
    rw [look_cons]
    rcases List.mem_cons.1 h with rfl | h
    · rw [if_pos rfl]
    · rw [if_neg (less_ne (h1 x h)), ih h2 h]

theorem tree_split {t : List File} (hs : Sorted t) (p : ByteArray) : ∃ A C : List File, (∀ x ∈ A, less x.path p = true) ∧ (∀ x ∈ C, less p x.path = true) ∧ Sorted A ∧ Sorted C ∧ posOf t p = A.length ∧
    ((isAt t p = true ∧ ∃ g, g.path = p ∧ t = A ++ g :: C) ∨ (isAt t p = false ∧ t = A ++ C)) := by
  induction t with
  | nil => exact ⟨[], [], by simp, by simp, List.Pairwise.nil, List.Pairwise.nil, rfl, .inr ⟨rfl, rfl⟩⟩
  | cons x r ih =>
    obtain ⟨h1, h2⟩ := List.pairwise_cons.1 hs
    rcases less_tri x.path p with g | g | g
    · obtain ⟨A, C, a1, a2, a3, a4, a5, a6⟩ := ih h2
      have e2 : posOf (x :: r) p = posOf r p + 1 := by unfold posOf; rw [List.takeWhile_cons, g]; rfl
      have e3 : isAt (x :: r) p = isAt r p := by unfold isAt; rw [e2, List.getElem?_cons_succ]
      have hA : Sorted (x :: A) := by
        refine List.Pairwise.cons (fun y hy => h1 y ?_) a3
        rcases a6 with ⟨_, w, _, rfl⟩ | ⟨_, rfl⟩
        · exact List.mem_append_left _ hy
        · exact List.mem_append_left _ hy
      refine ⟨x :: A, C, ?_, a2, hA, a4, by rw [e2, a5]; rfl, ?_⟩
      · intro y hy
        rcases List.mem_cons.1 hy with rfl | hy
        · exact g
        · exact a1 y hy
      · rw [e3]
        rcases a6 with ⟨b1, w, b2, b3⟩ | ⟨b1, b2⟩
        · exact .inl ⟨b1, w, b2, by rw [b3]; rfl⟩
        · exact .inr ⟨b1, by rw [b2]; rfl⟩
    · have e2 : posOf (x :: r) p = 0 := by unfold posOf; rw [List.takeWhile_cons, g, less_irrefl]; rfl
      exact ⟨[], r, by simp, fun y hy => by rw [← g]; exact h1 y hy, List.Pairwise.nil, h2, e2, .inl ⟨by unfold isAt; rw [e2]; simp [g], x, g, rfl⟩⟩
    · have e2 : posOf (x :: r) p = 0 := by unfold posOf; rw [List.takeWhile_cons, less_asymm g]; rfl
      refine ⟨[], x :: r, by simp, fun y hy => ?_, List.Pairwise.nil, hs, e2, .inr ⟨by unfold isAt; rw [e2]; simp [(less_ne g).symm], rfl⟩⟩
      rcases List.mem_cons.1 hy with rfl | hy
      · exact g
      · exact less_trans g (h1 y hy)
theorem sorted_join {A C : List File} {f : File} (a1 : ∀ x ∈ A, less x.path f.path = true) (a2 : ∀ x ∈ C, less f.path x.path = true) (a3 : Sorted A) (a4 : Sorted C) : Sorted (A ++ f :: C) := by
  refine List.pairwise_append.2 ⟨a3, List.Pairwise.cons a2 a4, fun x hx y hy => ?_⟩
  rcases List.mem_cons.1 hy with rfl | hy
  · exact a1 x hx
  · exact less_trans (a1 x hx) (a2 y hy)
theorem sorted_pair {A C : List File} {p : ByteArray} (a1 : ∀ x ∈ A, less x.path p = true) (a2 : ∀ x ∈ C, less p x.path = true) (a3 : Sorted A) (a4 : Sorted C) : Sorted (A ++ C) :=
  List.pairwise_append.2 ⟨a3, a4, fun x hx y hy => less_trans (a1 x hx) (a2 y hy)⟩
theorem isAt_look {t : List File} (hs : Sorted t) (p : ByteArray) : isAt t p = (look t p).isSome := by
  obtain ⟨A, C, a1, a2, _, _, _, a6⟩ := tree_split hs p
  rcases a6 with ⟨b1, w, b2, rfl⟩ | ⟨b1, rfl⟩
  · rw [b1, look_app, look_none fun x hx => less_ne (a1 x hx), look_cons, if_pos b2]; rfl
  · rw [b1, look_app, look_none fun x hx => less_ne (a1 x hx), look_none fun x hx => (less_ne (a2 x hx)).symm]; rfl
theorem posOf_look {t : List File} (hs : Sorted t) (p : ByteArray) : ((t[posOf t p]?).map (·.lines)).getD [] = (look t p).getD [] ∨ isAt t p = false := by
  obtain ⟨A, C, a1, a2, _, _, a5, a6⟩ := tree_split hs p
  rcases a6 with ⟨b1, w, b2, rfl⟩ | ⟨b1, _⟩
  · rw [a5, look_app, look_none fun x hx => less_ne (a1 x hx), look_cons, if_pos b2]
    exact .inl (by simp)
  · exact .inr b1
theorem putAt_is {t : List File} (hs : Sorted t) (f : File) : ∃ A C : List File, (∀ x ∈ A, less x.path f.path = true) ∧ (∀ x ∈ C, less f.path x.path = true) ∧ Sorted A ∧ Sorted C ∧ putAt t f = A ++ f :: C ∧
    ((isAt t f.path = true ∧ ∃ g, g.path = f.path ∧ t = A ++ g :: C) ∨ (isAt t f.path = false ∧ t = A ++ C)) := by
  obtain ⟨A, C, a1, a2, a3, a4, a5, a6⟩ := tree_split hs f.path
  refine ⟨A, C, a1, a2, a3, a4, ?_, a6⟩
  unfold putAt
  rcases a6 with ⟨b1, w, b2, rfl⟩ | ⟨b1, rfl⟩
  · rw [if_pos b1, a5, List.take_left' rfl, List.drop_append, List.drop_eq_nil_of_le (by omega)]
    simp
  · rw [if_neg (by rw [b1]; decide), a5, List.take_left' rfl, List.drop_left' rfl]
theorem putAt_sorted {t : List File} (hs : Sorted t) (f : File) : Sorted (putAt t f) := by
  obtain ⟨A, C, a1, a2, a3, a4, a5, _⟩ := putAt_is hs f
  rw [a5]
  exact sorted_join a1 a2 a3 a4
theorem putAt_look {t : List File} (hs : Sorted t) (f : File) (p : ByteArray) : look (putAt t f) p = if f.path = p then some f.lines else look t p := by
  obtain ⟨A, C, a1, a2, a3, a4, a5, a6⟩ := putAt_is hs f
  rw [a5, look_app, look_cons]
  by_cases e : f.path = p
  · rw [if_pos e, if_pos e, look_none fun x hx => by rw [← e]; exact less_ne (a1 x hx)]; rfl
  · rw [if_neg e, if_neg e]
    rcases a6 with ⟨b1, w, b2, rfl⟩ | ⟨b1, rfl⟩
    · rw [look_app, look_cons, if_neg (by rw [b2]; exact e)]
    · rw [look_app]
theorem putAt_len {t : List File} (hs : Sorted t) (f : File) : (putAt t f).length = if isAt t f.path = true then t.length else t.length + 1 := by
  obtain ⟨A, C, a1, a2, a3, a4, a5, a6⟩ := putAt_is hs f
  rw [a5]
  rcases a6 with ⟨b1, w, b2, rfl⟩ | ⟨b1, rfl⟩
  · rw [if_pos b1]; simp
  · rw [if_neg (by rw [b1]; decide)]; simp; omega
theorem putAt_mem {t : List File} {f x : File} (h : x ∈ putAt t f) : x = f ∨ x ∈ t := by
  unfold putAt at h
  rcases List.mem_append.1 h with h | h
  · exact .inr (List.mem_of_mem_take h)
  · rcases List.mem_cons.1 h with h | h
    · exact .inl h
    · exact .inr (List.mem_of_mem_drop h)
theorem dropAt_isp {t : List File} (hs : Sorted t) {p : ByteArray} (h : isAt t p = true) : ∃ A C : List File, (∀ x ∈ A, less x.path p = true) ∧ (∀ x ∈ C, less p x.path = true) ∧ Sorted A ∧ Sorted C ∧ dropAt t (posOf t p) = A ++ C ∧ ∃ g, g.path = p ∧ t = A ++ g :: C := by
  obtain ⟨A, C, a1, a2, a3, a4, a5, a6⟩ := tree_split hs p
  rcases a6 with ⟨b1, w, b2, rfl⟩ | ⟨b1, rfl⟩
  · refine ⟨A, C, a1, a2, a3, a4, ?_, w, b2, rfl⟩
    unfold dropAt
    rw [a5, List.take_left' rfl, List.drop_append, List.drop_eq_nil_of_le (by omega)]
    simp
  · rw [b1] at h; cases h
theorem dropAt_sorted {t : List File} (hs : Sorted t) {p : ByteArray} (h : isAt t p = true) : Sorted (dropAt t (posOf t p)) := by
  obtain ⟨A, C, a1, a2, a3, a4, a5, _⟩ := dropAt_isp hs h
  rw [a5]
  exact sorted_pair a1 a2 a3 a4
theorem dropAt_look {t : List File} (hs : Sorted t) {p : ByteArray} (h : isAt t p = true) (q : ByteArray) : look (dropAt t (posOf t p)) q = if p = q then none else look t q := by
  obtain ⟨A, C, a1, a2, a3, a4, a5, g, b1, b2⟩ := dropAt_isp hs h
  rw [a5, look_app]
  by_cases e : p = q
  · subst e
    rw [if_pos rfl, look_none fun x hx => less_ne (a1 x hx), look_none fun x hx => (less_ne (a2 x hx)).symm]; rfl
  · rw [if_neg e, b2, look_app, look_cons, if_neg (by rw [b1]; exact e)]
theorem dropAt_len {t : List File} (hs : Sorted t) {p : ByteArray} (h : isAt t p = true) : (dropAt t (posOf t p)).length + 1 = t.length := by
  obtain ⟨A, C, a1, a2, a3, a4, a5, g, b1, b2⟩ := dropAt_isp hs h
  rw [a5, b2]; simp; omega
theorem dropAt_mem {t : List File} {k : Nat} {x : File} (h : x ∈ dropAt t k) : x ∈ t := by
  unfold dropAt at h
  rcases List.mem_append.1 h with h | h
  · exact List.mem_of_mem_take h
  · exact List.mem_of_mem_drop h
/-- two trees in which each path reads the same are the same -/
theorem sorted_ext : ∀ {t u : List File}, Sorted t → Sorted u → (∀ p, look t p = look u p) → t = u
  | [], [], _, _, _ => rfl
  | [], y :: s, _, _, h => by have := h y.path; rw [look_nil, look_cons, if_pos rfl] at this; cases this
  | x :: r, [], _, _, h => by have := h x.path; rw [look_nil, look_cons, if_pos rfl] at this; cases this
  | x :: r, y :: s, hs, hu, h => by
    obtain ⟨h1, h2⟩ := List.pairwise_cons.1 hs
    obtain ⟨g1, g2⟩ := List.pairwise_cons.1 hu
    have hx := h x.path
    rw [look_cons, if_pos rfl, look_cons] at hx
    have hy := h y.path
    rw [look_cons y s, if_pos rfl, look_cons] at hy
    have key : x.path = y.path := by
      rcases less_tri x.path y.path with g | g | g
      · rw [if_neg (less_ne g).symm, look_none fun z hz => (less_ne (less_trans g (g1 z hz))).symm] at hx
        cases hx
      · exact g
      · rw [if_neg (less_ne g).symm, look_none fun z hz => (less_ne (less_trans g (h1 z hz))).symm] at hy
        cases hy
    rw [if_pos key.symm] at hx
    have e : x = y := by
      cases x; cases y
      simp only at key hx
      simp [key, Option.some.inj hx]
    subst e
    congr 1
    refine sorted_ext h2 g2 fun p => ?_
    have := h p
    rw [look_cons, look_cons] at this
    by_cases e : x.path = p
    · rw [look_none fun z hz => by rw [← e]; exact (less_ne (h1 z hz)).symm, look_none fun z hz => by rw [← e]; exact (less_ne (g1 z hz)).symm]
    · rw [if_neg e, if_neg e] at this
      exact this

/-! ### what makes a tree -/
theorem treeGo_ok : ∀ (t : List File) (i : Nat) (prev : Option ByteArray), (∀ f ∈ t, fileFault f = 0) → Sorted t → (∀ p f, prev = some p → f ∈ t → less p f.path = true) → treeGo i prev t = (0, 0)
  | [], _, _, _, _, _ => rfl
  | f :: r, i, prev, h1, h2, h3 => by
    obtain ⟨g1, g2⟩ := List.pairwise_cons.1 h2
    have hp : ¬ prev.any (fun p => leqB f.path p) = true := by
      cases prev with
      | none => simp
      | some p =>
        simp only [Option.any_some]
        intro e
        have := leqB_true.1 e
        rw [h3 p f rfl (List.mem_cons_self ..)] at this
        cases this
    rw [treeGo, if_neg (by rw [h1 f (List.mem_cons_self ..)]; simp), if_neg hp]
    exact treeGo_ok r (i + 1) (some f.path) (fun x hx => h1 x (List.mem_cons_of_mem _ hx)) g2 (fun p x hp hx => by cases hp; exact g1 x hx)
theorem treeFault_ok {t : List File} (h0 : t.length ≤ 8) (h1 : ∀ f ∈ t, fileFault f = 0) (h2 : Sorted t) : treeFault t = (0, 0) := by
  unfold treeFault
  rw [if_neg (by omega)]
  exact treeGo_ok t 0 none h1 h2 (by simp)
/-- a tree that may be -/
def Tree (t : List File) : Prop := t.length ≤ 8 ∧ (∀ f ∈ t, fileFault f = 0) ∧ Sorted t
theorem tree_iff {t : List File} : Tree t ↔ (treeFault t).2 = 0 :=
  ⟨fun h => by rw [treeFault_ok h.1 h.2.1 h.2.2], fun h => by obtain ⟨a, b, c, _⟩ := treeFault_zero h; exact ⟨a, b, c⟩⟩
end Go.Proofs.YteocmmejfnmjcaaGreatDoor
namespace Go.Proofs.YteocmmejfnmjcaaGreatDoor

def wholeR (l : List ByteArray) (s : Int) : List Hunk := if l = [] then [] else [⟨0, 0, l.map fun x => ⟨s, x⟩⟩]
/-- the change of a path by what it reads ahead and behind -/
def chg (n : Int) (p : ByteArray) : Option (List ByteArray) → Option (List ByteArray) → List Change
  | none, none => []
  | none, some y => [⟨2, p, wholeR y 43⟩]
  | some x, none => [⟨3, p, wholeR x 45⟩]
  | some x, some y => if cutOf (script x y) n = [] then [] else [⟨1, p, cutOf (script x y) n⟩]
def diffL (n : Int) : List File → List File → List Change
  | [], [] => []
  | x :: a, [] => ⟨3, x.path, wholeR x.lines 45⟩ :: diffL n a []
  | [], y :: b => ⟨2, y.path, wholeR y.lines 43⟩ :: diffL n [] b
  | x :: a, y :: b =>
    if less x.path y.path = true then ⟨3, x.path, wholeR x.lines 45⟩ :: diffL n a (y :: b)
    else if less y.path x.path = true then ⟨2, y.path, wholeR y.lines 43⟩ :: diffL n (x :: a) b
    else chg n x.path (some x.lines) (some y.lines) ++ diffL n a b
termination_by a b => a.length + b.length
def mergeT : List File → List File → List File
  | [], [] => []
  | x :: a, [] => x :: mergeT a []
  | [], y :: b => y :: mergeT [] b
  | x :: a, y :: b =>
    if less x.path y.path = true then x :: mergeT a (y :: b)
    else if less y.path x.path = true then y :: mergeT (x :: a) b
    else y :: mergeT a b
termination_by a b => a.length + b.length
def allOf (a b : List File) : List File := b.foldl putAt a
def refDiff (a b : List File) (n : Int) : List Change := (allOf a b).flatMap fun f => chg n f.path (look a f.path) (look b f.path)

theorem flat_congr {α β : Type} {g h : α → List β} : ∀ {l : List α}, (∀ x ∈ l, g x = h x) → l.flatMap g = l.flatMap h
  | [], _ => rfl
  | x :: r, e => by rw [List.flatMap_cons, List.flatMap_cons, e x (List.mem_cons_self ..), flat_congr fun y hy => e y (List.mem_cons_of_mem _ hy)]
theorem less_same {p q : ByteArray} (h : ¬ less p q = true) (g : ¬ less q p = true) : p = q := by
  rcases less_tri p q with e | e | e
  · exact absurd e h
  · exact e
  · exact absurd e g
/-- all of two lists lie behind a path -/
def Behind (p : ByteArray) (a : List File) : Prop := ∀ x ∈ a, less p x.path = true
theorem Behind.trans {p q : ByteArray} {a : List File} (h : Behind q a) (g : less p q = true) : Behind p a := fun x hx => less_trans g (h x hx)
theorem Behind.cons {p : ByteArray} {x : File} {a : List File} (h : Behind p a) (g : less p x.path = true) : Behind p (x :: a) := fun y hy => by
  rcases List.mem_cons.1 hy with rfl | hy
  · exact g
  · exact h y hy
theorem Behind.none {p : ByteArray} {a : List File} (h : Behind p a) : look a p = none := look_none fun x hx => (less_ne (h x hx)).symm
theorem sorted_cons {x : File} {a : List File} (h : Sorted (x :: a)) : Behind x.path a ∧ Sorted a := List.pairwise_cons.1 h
theorem merge_behind (p : ByteArray) : ∀ (a b : List File), Behind p a → Behind p b → Behind p (mergeT a b)
  | [], [], _, _ => by rw [mergeT]; exact fun x hx => by cases hx
  | x :: a, [], h, g => by
    rw [mergeT]
    exact Behind.cons (merge_behind p a [] (fun y hy => h y (List.mem_cons_of_mem _ hy)) g) (h x (List.mem_cons_self ..))
  | [], y :: b, h, g => by
    rw [mergeT]
    exact Behind.cons (merge_behind p [] b h (fun z hz => g z (List.mem_cons_of_mem _ hz))) (g y (List.mem_cons_self ..))
  | x :: a, y :: b, h, g => by
    have h1 : Behind p a := fun y hy => h y (List.mem_cons_of_mem _ hy)
    have g1 : Behind p b := fun y hy => g y (List.mem_cons_of_mem _ hy)
    rw [mergeT]
    split
    · exact Behind.cons (merge_behind p a (y :: b) h1 g) (h x (List.mem_cons_self ..))
    · split
      · exact Behind.cons (merge_behind p (x :: a) b h g1) (g y (List.mem_cons_self ..))
      · exact Behind.cons (merge_behind p a b h1 g1) (g y (List.mem_cons_self ..))
termination_by a b => a.length + b.length
theorem merge_sorted : ∀ (a b : List File), Sorted a → Sorted b → Sorted (mergeT a b)
  | [], [], _, _ => by rw [mergeT]; exact List.Pairwise.nil
  | x :: a, [], h, g => by
    rw [mergeT]
    exact List.Pairwise.cons (merge_behind x.path a [] (sorted_cons h).1 (fun y hy => by cases hy)) (merge_sorted a [] (sorted_cons h).2 g)
  | [], y :: b, h, g => by
    rw [mergeT]
    exact List.Pairwise.cons (merge_behind y.path [] b (fun y hy => by cases hy) (sorted_cons g).1) (merge_sorted [] b h (sorted_cons g).2)
  | x :: a, y :: b, h, g => by
    obtain ⟨h1, h2⟩ := sorted_cons h
    obtain ⟨g1, g2⟩ := sorted_cons g
    rw [mergeT]
    split
    · rename_i l1
      exact List.Pairwise.cons (merge_behind x.path a (y :: b) h1 ((g1.trans l1).cons l1)) (merge_sorted a (y :: b) h2 g)
    · rename_i l1
      split
      · rename_i l2
        exact List.Pairwise.cons (merge_behind y.path (x :: a) b ((h1.trans l2).cons l2) g1) (merge_sorted (x :: a) b h g2)
      · rename_i l2
        have e := less_same l1 l2
        exact List.Pairwise.cons (merge_behind y.path a b (by rw [← e]; exact h1) g1) (merge_sorted a b h2 g2)
termination_by a b => a.length + b.length
theorem merge_look (p : ByteArray) : ∀ (a b : List File), Sorted a → Sorted b → look (mergeT a b) p = (look b p).or (look a p)
  | [], [], _, _ => by rw [mergeT]; rfl
  | x :: a, [], h, g => by
    rw [mergeT, look_cons, look_cons, merge_look p a [] (sorted_cons h).2 g]
    rw [look_nil]; rfl
  | [], y :: b, h, g => by
    rw [mergeT, look_cons, look_cons, merge_look p [] b h (sorted_cons g).2]
    by_cases e : y.path = p
    · rw [if_pos e, if_pos e]; rfl
    · rw [if_neg e, if_neg e]
  | x :: a, y :: b, h, g => by
    obtain ⟨h1, h2⟩ := sorted_cons h
    obtain ⟨g1, g2⟩ := sorted_cons g
    rw [mergeT]
    split
    · rename_i l1
      rw [look_cons, merge_look p a (y :: b) h2 g, look_cons x a]
      by_cases e : x.path = p
      · rw [if_pos e, if_pos e, Behind.none (p := p) (by rw [← e]; exact (g1.trans l1).cons l1)]; rfl
      · rw [if_neg e, if_neg e]
    · rename_i l1
      split
      · rename_i l2
        rw [look_cons, merge_look p (x :: a) b h g2, look_cons y b]
        by_cases e : y.path = p
        · rw [if_pos e, if_pos e]; rfl
        · rw [if_neg e, if_neg e]
      · rename_i l2
        have e := less_same l1 l2
        rw [look_cons, merge_look p a b h2 g2, look_cons y b, look_cons x a]
        by_cases q : y.path = p
        · rw [if_pos q, if_pos q]; rfl
        · rw [if_neg q, if_neg q, if_neg (by rw [e]; exact q)]
termination_by a b => a.length + b.length
theorem all_sorted : ∀ (b a : List File), Sorted a → Sorted (allOf a b)
  | [], _, h => h
  | x :: r, a, h => all_sorted r (putAt a x) (putAt_sorted h x)
theorem all_look (p : ByteArray) : ∀ (b a : List File), Sorted a → Sorted b → look (allOf a b) p = (look b p).or (look a p)
  | [], a, _, _ => rfl
  | x :: r, a, h, g => by
    obtain ⟨g1, g2⟩ := sorted_cons g
    have := all_look p r (putAt a x) (putAt_sorted h x) g2
    rw [show allOf a (x :: r) = allOf (putAt a x) r from rfl, this, putAt_look h, look_cons]
    by_cases e : x.path = p
    · rw [if_pos e, if_pos e, Behind.none (p := p) (by rw [← e]; exact g1)]; rfl
    · rw [if_neg e, if_neg e]
theorem all_merge {a b : List File} (h : Sorted a) (g : Sorted b) : allOf a b = mergeT a b :=
  sorted_ext (all_sorted b a h) (merge_sorted a b h g) fun p => by rw [all_look p b a h g, merge_look p a b h g]
theorem merge_diff (n : Int) : ∀ (a b : List File), Sorted a → Sorted b → ((mergeT a b).flatMap fun f => chg n f.path (look a f.path) (look b f.path)) = diffL n a b
  | [], [], _, _ => by rw [mergeT, diffL]; rfl
  | x :: a, [], h, g => by
    obtain ⟨h1, h2⟩ := sorted_cons h
    rw [mergeT, diffL, List.flatMap_cons, ← merge_diff n a [] h2 g, look_cons, if_pos rfl, look_nil]
    refine congrArg (fun l => _ :: l) (flat_congr fun f hf => ?_)
    rw [look_cons, if_neg (less_ne (merge_behind x.path a [] h1 (fun y hy => by cases hy) f hf))]
  | [], y :: b, h, g => by
    obtain ⟨g1, g2⟩ := sorted_cons g
    rw [mergeT, diffL, List.flatMap_cons, ← merge_diff n [] b h g2, look_cons, if_pos rfl, look_nil]
    refine congrArg (fun l => _ :: l) (flat_congr fun f hf => ?_)
    rw [look_cons, if_neg (less_ne (merge_behind y.path [] b (fun y hy => by cases hy) g1 f hf))]
  | x :: a, y :: b, h, g => by
    obtain ⟨h1, h2⟩ := sorted_cons h
    obtain ⟨g1, g2⟩ := sorted_cons g
    rw [mergeT, diffL]
    by_cases l1 : less x.path y.path = true
    · have q := (g1.trans l1).cons l1
      rw [if_pos l1, if_pos l1, List.flatMap_cons, ← merge_diff n a (y :: b) h2 g, q.none, look_cons, if_pos rfl]
      refine congrArg (fun l => _ :: l) (flat_congr fun f hf => ?_)
      rw [look_cons x a, if_neg (less_ne (merge_behind x.path a (y :: b) h1 q f hf))]
    · rw [if_neg l1, if_neg l1]
      by_cases l2 : less y.path x.path = true
      · have q := (h1.trans l2).cons l2
        rw [if_pos l2, if_pos l2, List.flatMap_cons, ← merge_diff n (x :: a) b h g2, q.none, look_cons, if_pos rfl]
        refine congrArg (fun l => _ :: l) (flat_congr fun f hf => ?_)
        rw [look_cons y b, if_neg (less_ne (merge_behind y.path (x :: a) b q g1 f hf))]
      · have e := less_same l1 l2
        rw [if_neg l2, if_neg l2, List.flatMap_cons, ← merge_diff n a b h2 g2, look_cons, if_pos e, look_cons, if_pos rfl, e]
        refine congrArg (fun l => _ ++ l) (flat_congr fun f hf => ?_)
        have q := less_ne (merge_behind y.path a b (by rw [← e]; exact h1) g1 f hf)
        rw [look_cons y b, look_cons x a, if_neg (by rw [e]; exact q), if_neg q]
termination_by a b => a.length + b.length
theorem diff_same {a b : List File} (n : Int) (h : Sorted a) (g : Sorted b) : refDiff a b n = diffL n a b := by
  unfold refDiff
  rw [all_merge h g, merge_diff n a b h g]
end Go.Proofs.YteocmmejfnmjcaaGreatDoor
namespace Go.Proofs.YteocmmejfnmjcaaGreatDoor

def wholeB (l : List Hunk) (s : Int) : Bool :=
  match l with
  | [] => true
  | [h] => decide (h.old = 0) && decide (h.new = 0) && h.marks.all fun m => decide (m.sign = s)
  | _ => false
def shapeB (c : Change) : Bool := if c.what = 2 then wholeB c.hunks 43 else if c.what = 3 then wholeB c.hunks 45 else !c.hunks.isEmpty
def changeFault (c : Change) : Int :=
  if c.what < 1 ∨ 3 < c.what then 1 else if pathFault c.path ≠ 0 then pathFault c.path else if (hunksFault c.hunks).2 ≠ 0 then (hunksFault c.hunks).2 else if shapeB c = true then 0 else 2
def patchGo : Nat → Option ByteArray → List Change → Nat × Int
  | _, _, [] => (0, 0)
  | i, prev, c :: r => if changeFault c ≠ 0 then (i, changeFault c) else if prev.any (fun p => leqB c.path p) = true then (i, 2) else patchGo (i + 1) (some c.path) r
def patchFault (p : List Change) : Nat × Int := if 16 < p.length then (0, 3) else patchGo 0 none p
def SortedC (p : List Change) : Prop := p.Pairwise fun c d => less c.path d.path = true
def Patch (p : List Change) : Prop := p.length ≤ 16 ∧ (∀ c ∈ p, changeFault c = 0) ∧ SortedC p

theorem patchGo_zero : ∀ (t : List Change) (i : Nat) (prev : Option ByteArray), (patchGo i prev t).2 = 0 → (∀ f ∈ t, changeFault f = 0) ∧ SortedC t ∧ (∀ p f, prev = some p → f ∈ t → less p f.path = true) ∧ patchGo i prev t = (0, 0)
  | [], _, _, _ => ⟨by simp, List.Pairwise.nil, by simp, rfl⟩
  | f :: r, i, prev, h => by
    rw [patchGo] at h ⊢
    by_cases h1 : changeFault f ≠ 0
    · rw [if_pos h1] at h; exact absurd h h1
    · rw [if_neg h1] at h ⊢
      by_cases h2 : prev.any (fun p => leqB f.path p) = true
      · rw [if_pos h2] at h; cases h
      · rw [if_neg h2] at h ⊢
        obtain ⟨i1, i2, i3, i4⟩ := patchGo_zero r (i + 1) (some f.path) h
        refine ⟨?_, ?_, ?_, i4⟩
        · intro x hx
          rcases List.mem_cons.1 hx with rfl | hx
          · simpa using h1
          · exact i1 x hx
        · exact List.Pairwise.cons (fun g hg => i3 f.path g rfl hg) i2
        · rintro p x rfl hx
          have hp : less p f.path = true := by
            simp only [Option.any_some] at h2
            rcases less_tri p f.path with g | g | g
            · exact g
            · exact absurd (leqB_true.2 (by rw [g]; exact less_irrefl _)) h2
            · exact absurd (leqB_true.2 (less_asymm g)) h2
          rcases List.mem_cons.1 hx with rfl | hx
          · exact hp
          · exact less_trans hp (i3 f.path x rfl hx)
theorem patchGo_ok : ∀ (t : List Change) (i : Nat) (prev : Option ByteArray), (∀ f ∈ t, changeFault f = 0) → SortedC t → (∀ p f, prev = some p → f ∈ t → less p f.path = true) → patchGo i prev t = (0, 0)
  | [], _, _, _, _, _ => rfl
  | f :: r, i, prev, h1, h2, h3 => by
    obtain ⟨g1, g2⟩ := List.pairwise_cons.1 h2
    have hp : ¬ prev.any (fun p => leqB f.path p) = true := by
      cases prev with
      | none => simp
      | some p =>
        simp only [Option.any_some]
        intro e
        have := leqB_true.1 e
        rw [h3 p f rfl (List.mem_cons_self ..)] at this
        cases this
    rw [patchGo, if_neg (by rw [h1 f (List.mem_cons_self ..)]; simp), if_neg hp]
    exact patchGo_ok r (i + 1) (some f.path) (fun x hx => h1 x (List.mem_cons_of_mem _ hx)) g2 (fun p x hp hx => by cases hp; exact g1 x hx)
theorem patch_ok {p : List Change} (h : Patch p) : patchFault p = (0, 0) := by
  unfold patchFault
  rw [if_neg (by have := h.1; omega)]
  exact patchGo_ok p 0 none h.2.1 h.2.2 (by simp)
theorem patch_of {p : List Change} (h : (patchFault p).2 = 0) : Patch p := by
  unfold patchFault at h
  by_cases h1 : 16 < p.length
  · rw [if_pos h1] at h; cases h
  · rw [if_neg h1] at h
    obtain ⟨i1, i2, _, _⟩ := patchGo_zero p 0 none h
    exact ⟨by omega, i1, i2⟩
theorem patch_zero {p : List Change} (h : (patchFault p).2 = 0) : patchFault p = (0, 0) := patch_ok (patch_of h)

/-! ### what a change does to what a path reads -/
def stepOf (x : Option (List ByteArray)) (c : Change) : Option (List ByteArray) × Int :=
  if c.what = 2 ∧ x.isSome = true then (none, 6)
  else if c.what ≠ 2 ∧ x.isSome = false then (none, 4)
  else if (strict (x.getD []) c.hunks).2.2 ≠ 0 then (none, (strict (x.getD []) c.hunks).2.2)
  else if c.what = 3 then (if (strict (x.getD []) c.hunks).1 = [] then (none, 0) else (none, 6))
  else (some (strict (x.getD []) c.hunks).1, 0)
def setAt (t : List File) (p : ByteArray) (y : Option (List ByteArray)) : List File :=
  match y with
  | some l => putAt t ⟨p, l⟩
  | none => dropAt t (posOf t p)
def applyGo : Nat → List File → List Change → List File × Nat × Int
  | _, t, [] => (t, 0, 0)
  | i, t, c :: r => if (stepOf (look t c.path) c).2 ≠ 0 then ([], i, (stepOf (look t c.path) c).2) else applyGo (i + 1) (setAt t c.path (stepOf (look t c.path) c).1) r
def applyR (t : List File) (p : List Change) : List File × Nat × Int :=
  if (treeFault t).2 ≠ 0 then ([], 0, (treeFault t).2)
  else if (patchFault p).2 ≠ 0 then ([], (patchFault p).1, (patchFault p).2)
  else if (applyGo 0 t p).2.2 ≠ 0 then applyGo 0 t p
  else if 8 < (applyGo 0 t p).1.length then ([], 0, 3)
  else ((applyGo 0 t p).1, 0, 0)

theorem step_none {x : Option (List ByteArray)} {c : Change} (h : stepOf x c = (none, 0)) : x.isSome = true := by
  unfold stepOf at h
  by_cases h1 : c.what = 2 ∧ x.isSome = true
  · exact h1.2
  · rw [if_neg h1] at h
    by_cases h2 : c.what ≠ 2 ∧ x.isSome = false
    · rw [if_pos h2] at h; cases h
    · rw [if_neg h2] at h
      by_cases h3 : (strict (x.getD []) c.hunks).2.2 ≠ 0
      · rw [if_pos h3] at h; exact absurd (Prod.mk.inj h).2 h3
      · rw [if_neg h3] at h
        by_cases h4 : c.what = 3
        · cases hx : x.isSome with
          | true => rfl
          | false => exact absurd ⟨by omega, hx⟩ h2
        · rw [if_neg h4] at h; cases h
theorem setAt_look {t : List File} (hs : Sorted t) {p : ByteArray} {y : Option (List ByteArray)} (hy : y = none → isAt t p = true) (q : ByteArray) : look (setAt t p y) q = if p = q then y else look t q := by
  cases y with
  | some l => exact putAt_look hs ⟨p, l⟩ q
  | none => exact dropAt_look hs (hy rfl) q
theorem setAt_sorted {t : List File} (hs : Sorted t) {p : ByteArray} {y : Option (List ByteArray)} (hy : y = none → isAt t p = true) : Sorted (setAt t p y) := by
  cases y with
  | some l => exact putAt_sorted hs ⟨p, l⟩
  | none => exact dropAt_sorted hs (hy rfl)
theorem step_at {t : List File} (hs : Sorted t) {c : Change} {y : Option (List ByteArray)} (h : stepOf (look t c.path) c = (y, 0)) : y = none → isAt t c.path = true := by
  rintro rfl
  rw [isAt_look hs]
  exact step_none h

/-- a patch leads from tree to tree: by what each path reads -/
def Leads (t : List File) (p : List Change) (b : List File) : Prop :=
  (∀ c ∈ p, stepOf (look t c.path) c = (look b c.path, 0)) ∧ ∀ q, (∀ c ∈ p, c.path ≠ q) → look b q = look t q
theorem apply_of : ∀ (p : List Change) (t b : List File) (i : Nat), Sorted t → Sorted b → SortedC p → Leads t p b → applyGo i t p = (b, 0, 0)
  | [], t, b, _, ht, hb, _, h => by
    rw [applyGo, sorted_ext ht hb fun q => (h.2 q (by simp)).symm]
  | c :: r, t, b, i, ht, hb, hp, h => by
    obtain ⟨p1, p2⟩ := List.pairwise_cons.1 hp
    have hc := h.1 c (List.mem_cons_self ..)
    have hy := step_at ht hc
    rw [applyGo, hc, if_neg (by simp)]
    refine apply_of r _ b (i + 1) (setAt_sorted ht hy) hb p2 ⟨fun d hd => ?_, fun q hq => ?_⟩
    · rw [setAt_look ht hy, if_neg (less_ne (p1 d hd))]
      exact h.1 d (List.mem_cons_of_mem _ hd)
    · rw [setAt_look ht hy]
      by_cases e : c.path = q
      · rw [if_pos e, e]
      · rw [if_neg e]
        refine h.2 q fun d hd => ?_
        rcases List.mem_cons.1 hd with rfl | hd
        · exact e
        · exact hq d hd
theorem apply_inv : ∀ (p : List Change) (t b : List File) (k i : Nat), Sorted t → SortedC p → applyGo i t p = (b, k, 0) → k = 0 ∧ Sorted b ∧ Leads t p b
  | [], t, b, k, _, ht, _, h => by
    rw [applyGo] at h
    cases h
    exact ⟨rfl, ht, by simp, fun _ _ => rfl⟩
  | c :: r, t, b, k, i, ht, hp, h => by
    obtain ⟨p1, p2⟩ := List.pairwise_cons.1 hp
    rw [applyGo] at h
    by_cases z : (stepOf (look t c.path) c).2 ≠ 0
    · rw [if_pos z] at h
      simp only [Prod.mk.injEq] at h
      exact absurd h.2.2 z
    · rw [if_neg z] at h
      have hc : stepOf (look t c.path) c = ((stepOf (look t c.path) c).1, 0) := by
        rw [Prod.ext_iff]; exact ⟨rfl, by simpa using z⟩
      generalize (stepOf (look t c.path) c).1 = y at h hc
      have hy := step_at ht hc
      obtain ⟨k0, sb, l1, l2⟩ := apply_inv r _ b k (i + 1) (setAt_sorted ht hy) p2 h
      have hcb : look b c.path = y := by
        rw [l2 c.path fun d hd => (less_ne (p1 d hd)).symm, setAt_look ht hy, if_pos rfl]
      refine ⟨k0, sb, fun d hd => ?_, fun q hq => ?_⟩
      · rcases List.mem_cons.1 hd with rfl | hd
        · rw [hc, hcb]
        · have := l1 d hd
          rwa [setAt_look ht hy, if_neg (less_ne (p1 d hd))] at this
      · rw [l2 q fun d hd => hq d (List.mem_cons_of_mem _ hd), setAt_look ht hy, if_neg (hq c (List.mem_cons_self ..))]
theorem applyR_of {t b : List File} {p : List Change} (ht : Tree t) (hp : Patch p) (hb : Sorted b) (h8 : b.length ≤ 8) (h : Leads t p b) : applyR t p = (b, 0, 0) := by
  have e := apply_of p t b 0 ht.2.2 hb hp.2.2 h
  unfold applyR
  rw [if_neg (by rw [tree_iff.1 ht]; simp), if_neg (by rw [patch_ok hp]; simp), e, if_neg (by simp), if_neg (by simp only; omega)]
theorem applyR_inv {t b : List File} {p : List Change} {k : Nat} (h : applyR t p = (b, k, 0)) : k = 0 ∧ Tree t ∧ Patch p ∧ Sorted b ∧ b.length ≤ 8 ∧ Leads t p b := by
  unfold applyR at h
  by_cases h1 : (treeFault t).2 ≠ 0
  · rw [if_pos h1] at h; simp only [Prod.mk.injEq] at h; exact absurd h.2.2 h1
  · rw [if_neg h1] at h
    by_cases h2 : (patchFault p).2 ≠ 0
    · rw [if_pos h2] at h; simp only [Prod.mk.injEq] at h; exact absurd h.2.2 h2
    · rw [if_neg h2] at h
      have ht : Tree t := tree_iff.2 (by simpa using h1)
      have hp : Patch p := patch_of (by simpa using h2)
      by_cases h3 : (applyGo 0 t p).2.2 ≠ 0
      · rw [if_pos h3] at h; rw [h] at h3; exact absurd rfl h3
      · rw [if_neg h3] at h
        by_cases h4 : 8 < (applyGo 0 t p).1.length
        · rw [if_pos h4] at h; cases h
        · rw [if_neg h4] at h
          have e : applyGo 0 t p = ((applyGo 0 t p).1, (applyGo 0 t p).2.1, 0) := by
            rw [Prod.ext_iff, Prod.ext_iff]; exact ⟨rfl, rfl, by simpa using h3⟩
          obtain ⟨_, q2, q3⟩ := apply_inv p t _ _ 0 ht.2.2 hp.2.2 e
          cases h
          exact ⟨rfl, ht, hp, q2, by omega, q3⟩

/-! ### turned -/
def turnW (k : Int) : Int := if k = 2 then 3 else if k = 3 then 2 else k
def turnC (c : Change) : Change := ⟨turnW c.what, c.path, turnHunks c.hunks⟩
def turnP (p : List Change) : List Change := p.map turnC
theorem changeFault_zero {c : Change} (h : changeFault c = 0) : 1 ≤ c.what ∧ c.what ≤ 3 ∧ pathFault c.path = 0 ∧ hunksFault c.hunks = (0, 0) ∧ shapeB c = true := by
  unfold changeFault at h
  by_cases h1 : c.what < 1 ∨ 3 < c.what
  · rw [if_pos h1] at h; cases h
  · rw [if_neg h1] at h
    by_cases h2 : pathFault c.path ≠ 0
    · rw [if_pos h2] at h; exact absurd h h2
    · rw [if_neg h2] at h
      by_cases h3 : (hunksFault c.hunks).2 ≠ 0
      · rw [if_pos h3] at h; exact absurd h h3
      · rw [if_neg h3] at h
        by_cases h4 : shapeB c = true
        · exact ⟨by omega, by omega, by simpa using h2, hunksFault_first (by simpa using h3), h4⟩
        · rw [if_neg h4] at h; cases h
theorem changeFault_of {c : Change} (h1 : 1 ≤ c.what) (h2 : c.what ≤ 3) (h3 : pathFault c.path = 0) (h4 : hunksFault c.hunks = (0, 0)) (h5 : shapeB c = true) : changeFault c = 0 := by
  unfold changeFault
  rw [if_neg (by omega), if_neg (by simp [h3]), if_neg (by simp [h4]), if_pos h5]
theorem wholeB_turn {l : List Hunk} {s : Int} (hs : s = 43 ∨ s = 45) (h : wholeB l s = true) : wholeB (turnHunks l) (88 - s) = true := by
  match l with
  | [] => rfl
  | [q] =>
    unfold wholeB at h
    simp only [Bool.and_eq_true, decide_eq_true_eq, List.all_eq_true] at h
    obtain ⟨⟨h1, h2⟩, h3⟩ := h
    show (decide (q.new = 0) && decide (q.old = 0) && (q.marks.map turnMark).all fun m => decide (m.sign = 88 - s)) = true
    rw [Bool.and_eq_true, Bool.and_eq_true]
    refine ⟨⟨decide_eq_true h2, decide_eq_true h1⟩, List.all_eq_true.2 fun m hm => ?_⟩
    obtain ⟨x, hx, rfl⟩ := List.mem_map.1 hm
    have := h3 x hx
    refine decide_eq_true ?_
    unfold turnMark
    rcases hs with rfl | rfl
    · simp [this]
    · simp [this]
  | _ :: _ :: _ => cases h
theorem turnC_ok {c : Change} (h : changeFault c = 0) : changeFault (turnC c) = 0 := by
  obtain ⟨h1, h2, h3, h4, h5⟩ := changeFault_zero h
  have hw : c.what = 1 ∨ c.what = 2 ∨ c.what = 3 := by omega
  refine changeFault_of ?_ ?_ h3 (turn_ok h4) ?_
  · show 1 ≤ turnW c.what
    rcases hw with e | e | e <;> rw [e] <;> decide
  · show turnW c.what ≤ 3
    rcases hw with e | e | e <;> rw [e] <;> decide
  · unfold shapeB at h5 ⊢
    show (if turnW c.what = 2 then wholeB (turnHunks c.hunks) 43 else if turnW c.what = 3 then wholeB (turnHunks c.hunks) 45 else !(turnHunks c.hunks).isEmpty) = true
    rcases hw with e | e | e
    · rw [e, if_neg (by decide), if_neg (by decide)] at h5
      rw [e, if_neg (by decide), if_neg (by decide)]
      unfold turnHunks
      cases hh : c.hunks with
      | nil => rw [hh] at h5; cases h5
      | cons a b => rfl
    · rw [e, if_pos rfl] at h5
      rw [e, if_neg (by decide), if_pos (by decide)]
      exact wholeB_turn (.inl rfl) h5
    · rw [e, if_neg (by decide), if_pos rfl] at h5
      rw [e, if_pos (by decide)]
      exact wholeB_turn (.inr rfl) h5
theorem turnC_turnC (c : Change) : turnC (turnC c) = c := by
  cases c with
  | mk k p l =>
    unfold turnC
    simp only [turn_turn]
    congr 1
    unfold turnW
    by_cases h2 : k = 2
    · simp [h2]
    · by_cases h3 : k = 3
      · simp [h3]
      · simp [h2, h3]
theorem turnP_turnP (p : List Change) : turnP (turnP p) = p := by
  unfold turnP
  rw [List.map_map]
  conv => rhs; rw [← List.map_id p]
  exact List.map_congr_left fun c _ => turnC_turnC c
theorem patch_turn {p : List Change} (h : Patch p) : Patch (turnP p) := by
  refine ⟨by unfold turnP; rw [List.length_map]; exact h.1, fun c hc => ?_, ?_⟩
  · obtain ⟨x, hx, rfl⟩ := List.mem_map.1 hc
    exact turnC_ok (h.2.1 x hx)
  · unfold SortedC turnP
    rw [List.pairwise_map]
    exact h.2.2
theorem strict_nil {a : List ByteArray} {l : List Hunk} {y : List ByteArray} {k : Nat} (h : strict a l = (y, k, 0)) : k = 0 := (fits_of_strict h).1
theorem step_undo {x y : Option (List ByteArray)} {c : Change} (hc : changeFault c = 0) (h : stepOf x c = (y, 0)) : stepOf y (turnC c) = (x, 0) := by
  obtain ⟨c1, c2, _, _, _⟩ := changeFault_zero hc
  have hw : c.what = 1 ∨ c.what = 2 ∨ c.what = 3 := by omega
  unfold stepOf at h
  by_cases h1 : c.what = 2 ∧ x.isSome = true
  · rw [if_pos h1] at h; cases h
  · rw [if_neg h1] at h
    by_cases h2 : c.what ≠ 2 ∧ x.isSome = false
    · rw [if_pos h2] at h; cases h
    · rw [if_neg h2] at h
      by_cases h3 : (strict (x.getD []) c.hunks).2.2 ≠ 0
      · rw [if_pos h3] at h; simp only [Prod.mk.injEq] at h; exact absurd h.2 h3
      · rw [if_neg h3] at h
        have e : strict (x.getD []) c.hunks = ((strict (x.getD []) c.hunks).1, (strict (x.getD []) c.hunks).2.1, 0) := by
          rw [Prod.ext_iff, Prod.ext_iff]; exact ⟨rfl, rfl, by simpa using h3⟩
        have u := (strict_undo e).1
        rcases hw with w | w | w
        · rw [if_neg (by omega)] at h
          have hy := (Prod.mk.inj h).1
          cases x with
          | none => exact absurd ⟨by omega, rfl⟩ h2
          | some l =>
            subst hy
            unfold stepOf turnC turnW
            simp only [w, Option.getD_some] at u ⊢
            simp [u]
        · rw [if_neg (by omega)] at h
          have hy := (Prod.mk.inj h).1
          cases x with
          | some l => exact absurd ⟨w, rfl⟩ h1
          | none =>
            subst hy
            unfold stepOf turnC turnW
            simp only [w, Option.getD_some, Option.getD_none] at u ⊢
            simp [u]
        · rw [if_pos w] at h
          cases x with
          | none => exact absurd ⟨by omega, rfl⟩ h2
          | some l =>
            by_cases q : (strict ((some l).getD []) c.hunks).1 = []
            · rw [if_pos q] at h
              have hy := (Prod.mk.inj h).1
              subst hy
              rw [q] at u
              unfold stepOf turnC turnW
              simp only [w, Option.getD_some, Option.getD_none] at u ⊢
              simp [u]
            · rw [if_neg q] at h; cases h
theorem leads_turn {t b : List File} {p : List Change} (hp : ∀ c ∈ p, changeFault c = 0) (h : Leads t p b) : Leads b (turnP p) t := by
  refine ⟨fun c hc => ?_, fun q hq => ?_⟩
  · obtain ⟨x, hx, rfl⟩ := List.mem_map.1 hc
    exact step_undo (hp x hx) (h.1 x hx)
  · exact (h.2 q fun c hc => hq (turnC c) (List.mem_map_of_mem hc)).symm
theorem step_lines {x y : Option (List ByteArray)} {c : Change} (h : stepOf x c = (y, 0)) : ∀ l, y = some l → linesFault l = 0 := by
  rintro l rfl
  unfold stepOf at h
  by_cases h1 : c.what = 2 ∧ x.isSome = true
  · rw [if_pos h1] at h; cases h
  · rw [if_neg h1] at h
    by_cases h2 : c.what ≠ 2 ∧ x.isSome = false
    · rw [if_pos h2] at h; cases h
    · rw [if_neg h2] at h
      by_cases h3 : (strict (x.getD []) c.hunks).2.2 ≠ 0
      · rw [if_pos h3] at h; cases h
      · rw [if_neg h3] at h
        have e : strict (x.getD []) c.hunks = ((strict (x.getD []) c.hunks).1, (strict (x.getD []) c.hunks).2.1, 0) := by
          rw [Prod.ext_iff, Prod.ext_iff]; exact ⟨rfl, rfl, by simpa using h3⟩
        by_cases h4 : c.what = 3
        · rw [if_pos h4] at h
          split at h <;> cases h
        · rw [if_neg h4] at h
          have := Option.some.inj (Prod.mk.inj h).1
          rw [← this]
          exact (strict_undo e).2
/-- what comes of a tree is one -/
theorem leads_tree {t b : List File} {p : List Change} (ht : Tree t) (hp : Patch p) (hb : Sorted b) (h8 : b.length ≤ 8) (h : Leads t p b) : Tree b := by
  refine ⟨h8, fun f hf => ?_, hb⟩
  have hl := look_mem hb hf
  by_cases e : ∃ c ∈ p, c.path = f.path
  · obtain ⟨c, hc, e⟩ := e
    have hs := h.1 c hc
    rw [e, hl] at hs
    unfold fileFault
    rw [if_pos (by rw [← e]; exact (changeFault_zero (hp.2.1 c hc)).2.2.1)]
    exact step_lines hs _ rfl
  · have := h.2 f.path fun c hc g => e ⟨c, hc, g⟩
    rw [hl] at this
    obtain ⟨x, hx, e1, e2⟩ := look_some this.symm
    have q : x = f := by cases x; cases f; simp only at e1 e2; rw [e1, e2]
    exact q ▸ ht.2.1 x hx
/-- what was done is undone -/
theorem apply_back {t b : List File} {p : List Change} {k : Nat} (h : applyR t p = (b, k, 0)) : applyR b (turnP p) = (t, 0, 0) := by
  obtain ⟨_, ht, hp, hb, h8, hl⟩ := applyR_inv h
  exact applyR_of (leads_tree ht hp hb h8 hl) (patch_turn hp) ht.2.2 ht.1 (leads_turn hp.2.1 hl)
end Go.Proofs.YteocmmejfnmjcaaGreatDoor
namespace Go.Proofs.YteocmmejfnmjcaaGreatDoor
open Go.RowKit

theorem other_any (sg s : Int) (tx : ByteArray) (p : Addr) (w : World) (h : w.cell? p = some (.int .u8 s)) :
    Calls Tryz.prog 96 #[.agg #[.int .u8 sg, .string tx], .pointer (some p)] w fun e w' => e = .returned (.bool (sg != s)) ∧ Chg Never w w' := by
  have h := ((Chg.refl Never w).alloc (.cells #[.int .u8 sg, .string tx] 72)).cellNever h
  go_enter Tryz.func96, Tryz.ntmps96
  go_wp2_with fail
  go_ret
  exact ⟨rfl, (Chg.refl _ _).alloc _⟩
def allSign (l : List Mark) (s : Int) : Bool := l.all fun m => decide (m.sign = s)
theorem allSign_take {l : List Mark} {k : Nat} {x : Mark} {s : Int} (hx : l[k]? = some x) (h : allSign (l.take k) s = true) : allSign (l.take (k + 1)) s = decide (x.sign = s) := by
  rw [List.take_add_one, hx]
  unfold allSign at *
  rw [List.all_append, h]
  simp
theorem allSign_bad {l : List Mark} {k : Nat} {x : Mark} {s : Int} (hx : l[k]? = some x) (h : x.sign ≠ s) : allSign l s = false := by
  unfold allSign
  rw [List.all_eq_false]
  exact ⟨x, List.mem_of_getElem? hx, by simp [h]⟩
def OthPost (l : List Mark) (s : Int) (w : World) (e : Ending) (w' : World) : Prop := ∃ n : Int, e = .returned (.int .i64 n) ∧ -1 ≤ n ∧ decide (0 ≤ n) = !(allSign l s) ∧ Chg Never w w'
set_option maxHeartbeats 1000000 in
set_option maxRecDepth 100000 in
theorem index_other (l : List Mark) (s : Int) (v : Value) (p : Addr) (w : World) (h : Rdv w Never v l) (hp : w.cell? p = some (.int .u8 s)) :
    Calls Tryz.prog 113 #[v, .func (.func 96) #[] #[.pointer (some p)]] w (OthPost l s w) := by
  obtain ⟨a, cap, rfl, h1, h2, h3⟩ := rdv_slice h
  unfold maxLen at h2
  go_enter Tryz.func113, Tryz.ntmps113
  go_wp2_with fail
  go_loopw [8] (fun i wr => ∃ k : Nat, k ≤ l.length ∧ i = .int .i64 k ∧ Hid (allSign (l.take k) s = true) ∧ Chg Never w wr) (fun i _ => l.length - (intOf i).toNat)
  case atStart => exact ⟨0, Nat.zero_le _, rfl, rfl, Chg.refl _ _⟩
  case round =>
    obtain ⟨k, hk, rfl, hf, hc⟩ := hrel
    by_cases hlt : k < l.length
    · obtain ⟨x, hx⟩ : ∃ x, l[k]? = some x := ⟨l[k], by simp [hlt]⟩
      obtain ⟨b, off, rfl, _, _, c0, c1, s0, s1, hxs⟩ := elems_mark h3 hx
      have c0 := hc.cellNever c0
      have c1 := hc.cellNever c1
      have HT := Lib.hid (allSign_take hx hf.out)
      have HB : ∀ _ : x.sign ≠ s, Hid (allSign l s = false) := fun e => allSign_bad hx e
      clear hx h3 h
      obtain ⟨sg, tx⟩ := x
      simp only at c0 c1 s0 s1 hxs HB HT
      by_cases h32 : sg = s
      · have t1 : (sg != s) = false := by simp [h32]
        go_wp2_with (go_at_call 96; refine (other_any _ s _ _ _ (hc.cellNever hp)).mono ?_; rintro e w2 ⟨rfl, hc2⟩)
        go_roundw
        case rel => exact ⟨k + 1, by omega, by go_num, by rw [Hid, HT.out]; exact decide_eq_true h32, hc.trans hc2⟩
        case measure => simp [intOf] <;> omega
      · have t1 : (sg != s) = true := by simp [h32]
        have E := HB h32
        clear HB HT
        go_wp2_with (go_at_call 96; refine (other_any _ s _ _ _ (hc.cellNever hp)).mono ?_; rintro e w2 ⟨rfl, hc2⟩)
        go_ret
        exact ⟨k, rfl, by omega, by rw [E.out]; simp, hc.trans hc2⟩
    · go_wp2_with fail
      go_ret
      have E : allSign l s = true := by have := hf.out; rwa [List.take_of_length_le (by omega)] at this
      exact ⟨-1, rfl, by omega, by rw [E]; rfl, hc⟩
theorem contains_other (l : List Mark) (s : Int) (v : Value) (p : Addr) (w : World) (h : Rdv w Never v l) (hp : w.cell? p = some (.int .u8 s)) :
    Calls Tryz.prog 94 #[v, .func (.func 96) #[] #[.pointer (some p)]] w fun e w' => e = .returned (.bool (!(allSign l s))) ∧ Chg Never w w' := by
  go_enter Tryz.func94, Tryz.ntmps94
  go_wp2_with fail
  refine (index_other l s _ _ _ h hp).mono ?_
  rintro e w1 ⟨n, rfl, hn, hd, hc⟩
  have HD := Lib.hid hd
  clear hd
  go_wp2_with fail
  go_ret
  exact ⟨by rw [← HD.out]; rfl, hc⟩

/-- a change and a sign in boxes -/
theorem box_change (w : World) (T U : TypeId) (k s : Int) (p : ByteArray) (v : Value) (W : World) (hW : W = (w.alloc (.cells #[.int .i64 k, .string p, v] T)).alloc (.cells #[.int .u8 s] U)) :
    Chg Never w W ∧ W.cell? ⟨w.heap.size, 0, none⟩ = some (.int .i64 k) ∧ W.cell? ⟨w.heap.size, 1, none⟩ = some (.string p) ∧ W.cell? ⟨w.heap.size, 2, none⟩ = some v ∧ W.cell? ⟨w.heap.size + 1, 0, none⟩ = some (.int .u8 s) := by
  subst hW
  have hA : Chg Never w (w.alloc (.cells #[.int .i64 k, .string p, v] T)) := (Chg.refl Never w).alloc _
  have hB := (Chg.refl Never (w.alloc (.cells #[.int .i64 k, .string p, v] T))).alloc (.cells #[.int .u8 s] U)
  have n := heap_alloc_new w (.cells #[.int .i64 k, .string p, v] T)
  have n2 := heap_alloc_new (w.alloc (.cells #[.int .i64 k, .string p, v] T)) (.cells #[.int .u8 s] U)
  rw [World.size_alloc] at n2
  refine ⟨hA.trans hB, hB.cellNever ?_, hB.cellNever ?_, hB.cellNever ?_, ?_⟩
  · simp only [World.cell?]; rw [n]; rfl
  · simp only [World.cell?]; rw [n]; rfl
  · simp only [World.cell?]; rw [n]; rfl
  · simp only [World.cell?]; rw [n2]; rfl
theorem box1_change (w : World) (T : TypeId) (k : Int) (p : ByteArray) (v : Value) (W : World) (hW : W = w.alloc (.cells #[.int .i64 k, .string p, v] T)) :
    Chg Never w W ∧ W.cell? ⟨w.heap.size, 0, none⟩ = some (.int .i64 k) ∧ W.cell? ⟨w.heap.size, 1, none⟩ = some (.string p) ∧ W.cell? ⟨w.heap.size, 2, none⟩ = some v := by
  subst hW
  have n := heap_alloc_new w (.cells #[.int .i64 k, .string p, v] T)
  refine ⟨(Chg.refl Never w).alloc _, ?_, ?_, ?_⟩ <;> (simp only [World.cell?]; rw [n]; rfl)
theorem wholeB_one (h : Hunk) (s : Int) : wholeB [h] s = (decide (h.old = 0) && decide (h.new = 0) && allSign h.marks s) := rfl
theorem wholeB_many {l : List Hunk} {s : Int} (h : 2 ≤ l.length) : wholeB l s = false := by
  match l, h with
  | _ :: _ :: _, _ => rfl
set_option maxHeartbeats 2000000 in
set_option maxRecDepth 100000 in
theorem whole_go (wh : Int) (pa : ByteArray) (hs : List Hunk) (s : Int) (v : Value) (w : World) (h : Rdv w Never v hs) :
    Calls Tryz.prog 79 #[.agg #[.int .i64 wh, .string pa, v], .int .u8 s] w fun e w' => e = .returned (.bool (wholeB hs s)) ∧ Chg Never w w' := by
  obtain ⟨a, cap, rfl, h1, h2, h3⟩ := rdv_slice h
  obtain ⟨hA, b0, b1, b2, bs⟩ := box_change w 36 5 wh s pa (.slice a hs.length cap) _ rfl
  match hs, h, h1, h2, h3, hA, b0, b1, b2, bs with
  | [], h, h1, h2, h3, hA, b0, b1, b2, bs =>
    have e0 : wholeB [] s = true := rfl
    rw [e0]
    go_enter Tryz.func79, Tryz.ntmps79
    go_wp2_with fail
    go_ret
    exact ⟨rfl, hA⟩
  | [x], h, h1, h2, h3, hA, b0, b1, b2, bs =>
    obtain ⟨b, off, mv, rfl, _, _, c0, c1, c2, hmv⟩ := elems_hunk h3 (i := 0) rfl
    simp only [Nat.zero_mul, Nat.add_zero] at c0 c1 c2
    have c0 := hA.cellNever c0
    have c1 := hA.cellNever c1
    have c2 := hA.cellNever c2
    have hmv := hmv.never hA
    rw [wholeB_one]
    clear h3
    by_cases o : x.old = 0
    · by_cases n : x.new = 0
      · rw [decide_eq_true o, decide_eq_true n]
        have o0 : (x.old == 0) = true := by simp [o]
        have n0 : (x.new == 0) = true := by simp [n]
        clear o n
        go_enter Tryz.func79, Tryz.ntmps79
        go_wp2_with fail
        refine (contains_other x.marks s _ _ _ hmv bs).mono ?_
        rintro e w2 ⟨rfl, hc2⟩
        go_wp2_with fail
        go_ret
        exact ⟨by simp, hA.trans hc2⟩
      · rw [decide_eq_true o, decide_eq_false n]
        have o0 : (x.old == 0) = true := by simp [o]
        have n0 : (x.new == 0) = false := by simp [n]
        clear o n
        go_enter Tryz.func79, Tryz.ntmps79
        go_wp2_with fail
        go_ret
        exact ⟨rfl, hA⟩
    · rw [decide_eq_false o]
      have o0 : (x.old == 0) = false := by simp [o]
      clear o
      go_enter Tryz.func79, Tryz.ntmps79
      go_wp2_with fail
      go_ret
      exact ⟨rfl, hA⟩
  | x :: y :: r, h, h1, h2, h3, hA, b0, b1, b2, bs =>
    rw [wholeB_many (by simp)]
    generalize hL : x :: y :: r = L at b0 b1 b2 bs h h1 h2 hA ⊢
    have hge : 2 ≤ L.length := by rw [← hL]; simp
    have t0 : ((L.length : Int) == 0) = false := beq_eq_false_iff_ne.2 (by omega)
    have t1 : ((L.length : Int) == 1) = false := beq_eq_false_iff_ne.2 (by omega)
    clear hL h3
    go_enter Tryz.func79, Tryz.ntmps79
    go_wp2_with fail
    go_ret
    exact ⟨rfl, hA⟩
theorem whole_any (c : Change) (s : Int) (v : Value) (w : World) (h : Rdv w Never v c.hunks) :
    Calls Tryz.prog 79 #[.agg #[.int .i64 c.what, .string c.path, v], .int .u8 s] w fun e w' => e = .returned (.bool (wholeB c.hunks s)) ∧ Chg Never w w' := whole_go _ _ _ _ _ _ h
end Go.Proofs.YteocmmejfnmjcaaGreatDoor
namespace Go.Proofs.YteocmmejfnmjcaaGreatDoor
open Go.RowKit

set_option maxHeartbeats 1000000 in
set_option maxRecDepth 100000 in
theorem shape_any (c : Change) (v : Value) (w : World) (h : Rdv w Never v c.hunks) :
    Calls Tryz.prog 55 #[.agg #[.int .i64 c.what, .string c.path, v]] w fun e w' => e = .returned (.bool (shapeB c)) ∧ Chg Never w w' := by
  obtain ⟨a, cap, rfl, h1, h2, _⟩ := rdv_slice h
  obtain ⟨hA, b0, b1, b2⟩ := box1_change w 36 c.what c.path (.slice a c.hunks.length cap) _ rfl
  by_cases k2 : c.what = 2
  · have E : Hid (shapeB c = wholeB c.hunks 43) := if_pos k2
    have t2 : (c.what == 2) = true := by simp [k2]
    clear k2
    go_enter Tryz.func55, Tryz.ntmps55
    go_wp2_with fail
    refine (whole_any c 43 _ _ (h.never hA)).mono ?_
    rintro e w2 ⟨rfl, hc2⟩
    go_wp2_with fail
    go_ret
    exact ⟨by rw [E.out]; rfl, hA.trans hc2⟩
  · have t2 : (c.what == 2) = false := by simp [k2]
    by_cases k3 : c.what = 3
    · have E : Hid (shapeB c = wholeB c.hunks 45) := by unfold Hid shapeB; rw [if_neg k2, if_pos k3]
      have t3 : (c.what == 3) = true := by simp [k3]
      clear k2 k3
      go_enter Tryz.func55, Tryz.ntmps55
      go_wp2_with fail
      refine (whole_any c 45 _ _ (h.never hA)).mono ?_
      rintro e w2 ⟨rfl, hc2⟩
      go_wp2_with fail
      go_ret
      exact ⟨by rw [E.out]; rfl, hA.trans hc2⟩
    · have E : Hid (shapeB c = decide (0 < c.hunks.length)) := by
        unfold Hid shapeB
        rw [if_neg k2, if_neg k3]
        cases c.hunks <;> simp
      have t3 : (c.what == 3) = false := by simp [k3]
      clear k2 k3
      go_enter Tryz.func55, Tryz.ntmps55
      go_wp2_with fail
      go_ret
      exact ⟨by rw [E.out]; rfl, hA⟩
theorem cf_rng {c : Change} (h : c.what < 1 ∨ 3 < c.what) : changeFault c = 1 := if_pos h
theorem cf_path {c : Change} (h : ¬ (c.what < 1 ∨ 3 < c.what)) (g : pathFault c.path ≠ 0) : changeFault c = pathFault c.path := by unfold changeFault; rw [if_neg h, if_pos g]
theorem cf_hunks {c : Change} (h : ¬ (c.what < 1 ∨ 3 < c.what)) (g : pathFault c.path = 0) (k : (hunksFault c.hunks).2 ≠ 0) : changeFault c = (hunksFault c.hunks).2 := by unfold changeFault; rw [if_neg h, if_neg (by rw [g]; decide), if_pos k]
theorem cf_shape {c : Change} (h : ¬ (c.what < 1 ∨ 3 < c.what)) (g : pathFault c.path = 0) (k : (hunksFault c.hunks).2 = 0) (s : shapeB c = false) : changeFault c = 2 := by unfold changeFault; rw [if_neg h, if_neg (by rw [g]; decide), if_neg (by rw [k]; decide), if_neg (by rw [s]; decide)]
theorem cf_ok {c : Change} (h : ¬ (c.what < 1 ∨ 3 < c.what)) (g : pathFault c.path = 0) (k : (hunksFault c.hunks).2 = 0) (s : shapeB c = true) : changeFault c = 0 := by unfold changeFault; rw [if_neg h, if_neg (by rw [g]; decide), if_neg (by rw [k]; decide), if_pos s]
set_option maxHeartbeats 2000000 in
set_option maxRecDepth 100000 in
theorem patch_one_any (c : Change) (v : Value) (w : World) (h : Rdv w Never v c.hunks) (m : Int) (hm : w.cell? ⟨1, 0, none⟩ = some (.int .i64 m)) :
    Calls Tryz.prog 26 #[.agg #[.int .i64 c.what, .string c.path, v]] w fun e w' => e = .returned (errV (changeFault c)) ∧ Chg Never w w' := by
  obtain ⟨a, cap, rfl, h1, h2, _⟩ := rdv_slice h
  obtain ⟨hA, b0, b1, b2⟩ := box1_change w 36 c.what c.path (.slice a c.hunks.length cap) _ rfl
  by_cases r : c.what < 1 ∨ 3 < c.what
  · rw [cf_rng r]
    rcases r with r | r
    · go_enter Tryz.func26, Tryz.ntmps26
      go_wp2_with fail
      go_ret
      exact ⟨rfl, hA⟩
    · have r0 : ¬ c.what < 1 := by omega
      go_enter Tryz.func26, Tryz.ntmps26
      go_wp2_with fail
      go_ret
      exact ⟨rfl, hA⟩
  · have r0 : ¬ c.what < 1 := by omega
    have r1 : ¬ 3 < c.what := by omega
    by_cases z : pathFault c.path = 0
    · have Z := Lib.hid z
      by_cases y : (hunksFault c.hunks).2 = 0
      · have Y := Lib.hid y
        cases s : shapeB c with
        | true =>
          have E := Lib.hid (cf_ok r z y s)
          have S := Lib.hid s
          clear r z y s
          go_enter Tryz.func26, Tryz.ntmps26
          go_wp2_with fail
          generalize w.alloc (.cells #[.int .i64 c.what, .string c.path, .slice a c.hunks.length cap] 36) = wA at hA b0 b1 b2 ⊢
          refine (line_path_any c.path _ m (hA.cellNever hm)).mono ?_
          rintro e w2 ⟨rfl, hc2⟩
          have hw := hA.trans hc2
          have b0 := hc2.cellNever b0
          have b1 := hc2.cellNever b1
          have b2 := hc2.cellNever b2
          clear hc2
          rw [Z.out, errV_zero]
          go_wp2_with fail
          refine (hunk_check_any c.hunks _ _ (h.never hw)).mono ?_
          rintro e w3 ⟨rfl, hc3⟩
          have hw := hw.trans hc3
          have b0 := hc3.cellNever b0
          have b1 := hc3.cellNever b1
          have b2 := hc3.cellNever b2
          clear hc3
          rw [Y.out, errV_zero]
          go_wp2_with fail
          refine (shape_any c _ _ (h.never hw)).mono ?_
          rintro e w4 ⟨rfl, hc4⟩
          rw [S.out]
          clear b0 b1 b2
          go_wp2_with fail
          go_ret
          exact ⟨by rw [E.out]; rfl, hw.trans hc4⟩
        | false =>
          have E := Lib.hid (cf_shape r z y s)
          have S := Lib.hid s
          clear r z y s
          go_enter Tryz.func26, Tryz.ntmps26
          go_wp2_with fail
          generalize w.alloc (.cells #[.int .i64 c.what, .string c.path, .slice a c.hunks.length cap] 36) = wA at hA b0 b1 b2 ⊢
          refine (line_path_any c.path _ m (hA.cellNever hm)).mono ?_
          rintro e w2 ⟨rfl, hc2⟩
          have hw := hA.trans hc2
          have b0 := hc2.cellNever b0
          have b1 := hc2.cellNever b1
          have b2 := hc2.cellNever b2
          clear hc2
          rw [Z.out, errV_zero]
          go_wp2_with fail
          refine (hunk_check_any c.hunks _ _ (h.never hw)).mono ?_
          rintro e w3 ⟨rfl, hc3⟩
          have hw := hw.trans hc3
          have b0 := hc3.cellNever b0
          have b1 := hc3.cellNever b1
          have b2 := hc3.cellNever b2
          clear hc3
          rw [Y.out, errV_zero]
          go_wp2_with fail
          refine (shape_any c _ _ (h.never hw)).mono ?_
          rintro e w4 ⟨rfl, hc4⟩
          rw [S.out]
          clear b0 b1 b2
          go_wp2_with fail
          go_ret
          exact ⟨by rw [E.out]; rfl, hw.trans hc4⟩
      · have E := Lib.hid (cf_hunks r z y)
        have Y := Lib.hid y
        clear r z y
        go_enter Tryz.func26, Tryz.ntmps26
        go_wp2_with fail
        generalize w.alloc (.cells #[.int .i64 c.what, .string c.path, .slice a c.hunks.length cap] 36) = wA at hA b0 b1 b2 ⊢
        refine (line_path_any c.path _ m (hA.cellNever hm)).mono ?_
        rintro e w2 ⟨rfl, hc2⟩
        have hw := hA.trans hc2
        have b0 := hc2.cellNever b0
        have b1 := hc2.cellNever b1
        have b2 := hc2.cellNever b2
        clear hc2
        rw [Z.out, errV_zero]
        go_wp2_with fail
        refine (hunk_check_any c.hunks _ _ (h.never hw)).mono ?_
        rintro e w3 ⟨rfl, hc3⟩
        have hw := hw.trans hc3
        have b0 := hc3.cellNever b0
        have b1 := hc3.cellNever b1
        have b2 := hc3.cellNever b2
        clear hc3
        rw [errV_pos Y.out]
        clear b0 b1 b2
        go_wp2_with fail
        go_ret
        exact ⟨by rw [E.out, errV_pos Y.out]; rfl, hw⟩
    · have E := Lib.hid (cf_path r z)
      have Z := Lib.hid z
      clear r z
      go_enter Tryz.func26, Tryz.ntmps26
      go_wp2_with fail
      generalize w.alloc (.cells #[.int .i64 c.what, .string c.path, .slice a c.hunks.length cap] 36) = wA at hA b0 b1 b2 ⊢
      refine (line_path_any c.path _ m (hA.cellNever hm)).mono ?_
      rintro e w2 ⟨rfl, hc2⟩
      have hw := hA.trans hc2
      have b0 := hc2.cellNever b0
      have b1 := hc2.cellNever b1
      have b2 := hc2.cellNever b2
      clear hc2
      rw [errV_pos Z.out]
      clear b0 b1 b2
      go_wp2_with fail
      go_ret
      exact ⟨by rw [E.out, errV_pos Z.out]; rfl, hw⟩
/-! ### Check -/
def prevC (t : List Change) (k : Nat) : Option ByteArray := if k = 0 then none else (t[k - 1]?).map (·.path)
theorem prevC_succ {t : List Change} {k : Nat} {f : Change} (h : t[k]? = some f) : prevC t (k + 1) = some f.path := by unfold prevC; simp [h]
theorem patchGo_next {t : List Change} {k : Nat} {f : Change} {prev : Option ByteArray} (hd : t.drop k = f :: t.drop (k + 1)) (h1 : changeFault f = 0) (h2 : prev.any (fun p => leqB f.path p) = false) : patchGo k prev (t.drop k) = patchGo (k + 1) (some f.path) (t.drop (k + 1)) := by
  rw [hd, patchGo, if_neg (by simp [h1]), if_neg (by rw [h2]; decide)]
theorem patchGo_bad {t : List Change} {k : Nat} {f : Change} {prev : Option ByteArray} (hd : t.drop k = f :: t.drop (k + 1)) (h1 : changeFault f ≠ 0) : patchGo k prev (t.drop k) = (k, changeFault f) := by
  rw [hd, patchGo, if_pos h1]
theorem patchGo_order {t : List Change} {k : Nat} {f : Change} {p : ByteArray} (hd : t.drop k = f :: t.drop (k + 1)) (h1 : changeFault f = 0) (h2 : leqB f.path p = true) : patchGo k (some p) (t.drop k) = (k, 2) := by
  rw [hd, patchGo, if_neg (by simp [h1]), if_pos (by simpa using h2)]
theorem patchGo_end {t : List Change} {prev : Option ByteArray} : patchGo t.length prev (t.drop t.length) = (0, 0) := by rw [List.drop_length]; rfl
set_option maxHeartbeats 2000000 in
set_option maxRecDepth 100000 in
theorem patch_check_any (t : List Change) (v : Value) (w : World) (h : Rdv w Never v t) (m : Int) (hm : w.cell? ⟨1, 0, none⟩ = some (.int .i64 m)) :
    Calls Tryz.prog 6 #[v] w fun e w' => e = .returned (.tuple #[.int .i64 (patchFault t).1, errV (patchFault t).2]) ∧ Chg Never w w' := by
  obtain ⟨a, cap, rfl, h1, h2, h3⟩ := rdv_slice h
  unfold maxLen at h2
  by_cases h8 : 16 < t.length
  · have HF : Hid (patchFault t = (0, 3)) := if_pos h8
    go_enter Tryz.func6, Tryz.ntmps6
    go_wp2_with fail
    go_ret2
    exact ⟨by rw [HF.out]; rfl, Chg.refl _ _⟩
  · have HF : Hid (patchFault t = patchGo 0 (prevC t 0) (t.drop 0)) := if_neg h8
    go_enter Tryz.func6, Tryz.ntmps6
    go_wp2_with fail
    go_loopw [13] (fun i wr => ∃ k : Nat, k ≤ t.length ∧ i = .int .i64 k ∧ Chg Never w wr ∧ Hid (patchFault t = patchGo k (prevC t k) (t.drop k))) (fun i _ => t.length - (intOf i).toNat)
    case atStart => exact ⟨0, Nat.zero_le _, rfl, Chg.refl _ _, HF.out⟩
    case round =>
      clear HF
      obtain ⟨k, hk, rfl, hc, hG⟩ := hrel
      by_cases hlt : k < t.length
      · obtain ⟨x, hx⟩ : ∃ x, t[k]? = some x := ⟨t[k], by simp [hlt]⟩
        obtain ⟨b, off, lv, rfl, _, _, c0, c1, c2, hps, hlv⟩ := elems_change h3 hx
        obtain ⟨la, lcap, rfl, _, _, _⟩ := rdv_slice hlv
        have c0 := hc.cellNever c0
        have c1 := hc.cellNever c1
        have c2 := hc.cellNever c2
        have hlv := hlv.never hc
        have HD := Lib.hid (drop_eq hx)
        have HPV := Lib.hid (prevC_succ hx)
        have HX := Lib.hid hx
        obtain ⟨hA, b0, b1, b2⟩ := box1_change wr 36 x.what x.path (.slice la x.hunks.length lcap) _ rfl
        clear hx
        by_cases p0 : changeFault x = 0
        · have HFF := Lib.hid p0
          clear p0
          go_wp2_with fail
          generalize wr.alloc (.cells #[.int .i64 x.what, .string x.path, .slice la x.hunks.length lcap] 36) = w3 at hA b0 b1 b2 ⊢
          have hc3 := hc.trans hA
          refine (patch_one_any x _ _ (hlv.never hA) m (hc3.cellNever hm)).mono ?_
          rintro e w4 ⟨rfl, hc4⟩
          have b1 := hc4.cellNever b1
          have hcD := hc3.trans hc4
          clear hc4 hc3 hA c0 c1 c2 b0 b2
          rw [HFF.out, errV_zero]
          rcases Nat.eq_zero_or_pos k with h0 | h0
          · subst h0
            have HNX : Hid (patchFault t = patchGo (0 + 1) (prevC t (0 + 1)) (t.drop (0 + 1))) := by rw [Hid, HPV.out, hG.out]; exact patchGo_next HD.out HFF.out rfl
            clear hG
            go_wp2_with fail
            go_quiet (fail)
            go_wp2_with fail
            go_roundw
            case rel => exact ⟨0 + 1, by omega, by go_num, hcD.drewN _, HNX⟩
            case measure => simp [intOf] <;> omega
          · obtain ⟨k', rfl⟩ : ∃ k', k = k' + 1 := ⟨k - 1, by omega⟩
            obtain ⟨y, hy⟩ : ∃ y, t[k']? = some y := ⟨t[k']'(by omega), by simp [show k' < t.length by omega]⟩
            obtain ⟨b', off', lv', hbo, _, _, _, y0, _, _, _⟩ := elems_change h3 hy
            simp only [Option.some.injEq, Addr.mk.injEq, and_true] at hbo
            obtain ⟨rfl, rfl⟩ := hbo
            have y0 := hcD.cellNever y0
            have HPY : Hid (prevC t (k' + 1) = some y.path) := prevC_succ hy
            have z1 : (k' : Int) + 1 - 1 = k' := by omega
            have z2 : decide ((0 : Int) < (k' : Int) + 1) = true := decide_eq_true (by omega)
            clear hy
            rcases less_tri x.path y.path with g | g | g
            · have HE : Hid (patchFault t = (k' + 1, 2)) := by rw [Hid, hG.out, HPY.out]; exact patchGo_order HD.out HFF.out (leqB_true.2 (less_asymm g))
              have a1 : Op.bytesLess x.path.toList y.path.toList = true := g
              clear g hG
              go_wp2_with fail
              go_quiet (fail)
              go_wp2_with fail; go_ret2; exact ⟨by rw [HE.out]; rfl, hcD.drewN _⟩
            · have HE : Hid (patchFault t = (k' + 1, 2)) := by rw [Hid, hG.out, HPY.out]; exact patchGo_order HD.out HFF.out (leqB_true.2 (by rw [g]; exact less_irrefl _))
              have a1 : Op.bytesLess x.path.toList y.path.toList = false := by rw [g]; exact bl_irrefl _
              have a2 : (x.path.toList == y.path.toList) = true := by rw [g]; exact beq_self_eq_true _
              clear g hG
              go_wp2_with fail
              go_quiet (fail)
              go_wp2_with fail; go_ret2; exact ⟨by rw [HE.out]; rfl, hcD.drewN _⟩
            · have HNX : Hid (patchFault t = patchGo (k' + 1 + 1) (prevC t (k' + 1 + 1)) (t.drop (k' + 1 + 1))) := by
                rw [Hid, HPV.out, hG.out]
                refine patchGo_next HD.out HFF.out ?_
                rw [HPY.out, Option.any_some, Bool.eq_false_iff]
                intro e
                rw [leqB_true.1 e] at g; cases g
              have a1 : Op.bytesLess x.path.toList y.path.toList = false := less_asymm g
              have a2 := str_beq_false (less_ne g).symm
              clear g hG
              go_wp2_with fail
              go_quiet (fail)
              go_wp2_with fail
              go_roundw
              case rel => exact ⟨k' + 1 + 1, by omega, by go_num, hcD.drewN _, HNX⟩
              case measure => simp [intOf] <;> omega
        · have HE : Hid (patchFault t = (k, changeFault x)) := by rw [Hid, hG.out, patchGo_bad HD.out p0]
          have P0 := Lib.hid p0
          clear p0 hG
          go_wp2_with fail
          generalize wr.alloc (.cells #[.int .i64 x.what, .string x.path, .slice la x.hunks.length lcap] 36) = w3 at hA b0 b1 b2 ⊢
          have hc3 := hc.trans hA
          refine (patch_one_any x _ _ (hlv.never hA) m (hc3.cellNever hm)).mono ?_
          rintro e w4 ⟨rfl, hc4⟩
          have b1 := hc4.cellNever b1
          have hcD := hc3.trans hc4
          clear hc4 hc3 hA c0 c1 c2 b0 b2
          rw [errV_pos P0.out]
          go_wp2_with fail
          go_ret2
          exact ⟨by rw [HE.out, errV_pos P0.out]; rfl, hcD⟩
      · obtain rfl : k = t.length := by omega
        have e := hG.out
        rw [patchGo_end] at e
        have HE := Lib.hid e
        clear hG e
        go_wp2_with fail
        go_ret2
        exact ⟨by rw [HE.out]; rfl, hc⟩
end Go.Proofs.YteocmmejfnmjcaaGreatDoor
namespace Go.Proofs.YteocmmejfnmjcaaGreatDoor

theorem allSign_those (l : List Mark) (s : Int) : allSign l s = decide ((those l s).length = 0) := by
  unfold allSign those
  rw [List.length_map]
  induction l with
  | nil => rfl
  | cons m r ih =>
    rw [List.all_cons, ih, List.filter_cons]
    by_cases h : m.sign = s
    · simp [h]
    · simp [h]
theorem shape_edit0 {c : Change} (h : c.what = 1) (g : c.hunks = []) : shapeB c = false := by
  unfold shapeB; rw [if_neg (by rw [h]; decide), if_neg (by rw [h]; decide), g]; rfl
theorem shape_edit {c : Change} (h : c.what = 1) (g : c.hunks ≠ []) : shapeB c = true := by
  unfold shapeB
  rw [if_neg (by rw [h]; decide), if_neg (by rw [h]; decide)]
  cases hh : c.hunks with
  | nil => exact absurd hh g
  | cons x r => rfl
theorem shape_of {c : Change} (h : c.what = 2 ∨ c.what = 3) : shapeB c = wholeB c.hunks (if c.what = 2 then 43 else 45) := by
  unfold shapeB
  by_cases e : c.what = 2
  · rw [if_pos e, if_pos e]
  · rw [if_neg e, if_neg e, if_pos (h.resolve_left e)]
theorem shape_many {c : Change} (h : c.what = 2 ∨ c.what = 3) (g : 2 ≤ c.hunks.length) : shapeB c = false := by rw [shape_of h, wholeB_many g]
theorem shape_none {c : Change} (h : c.what = 2 ∨ c.what = 3) (g : c.hunks = []) : shapeB c = true := by rw [shape_of h, g]; rfl
theorem shape_one {c : Change} {x : Hunk} (h : c.what = 2 ∨ c.what = 3) (g : c.hunks = [x]) (f : (hunksFault c.hunks).2 = 0) : shapeB c = (decide (x.old = 0) && decide ((those x.marks (if c.what = 2 then 43 else 45)).length = 0)) := by
  rw [shape_of h, g, wholeB_one, allSign_those]
  have e : x.new = x.old := by
    rw [g] at f
    have := ((hunksFault_zero f).2).1
    have := (oneFault_zero this).2.2.2.2.2.2.2
    omega
  by_cases o : x.old = 0
  · rw [decide_eq_true o, decide_eq_true (by omega)]; rfl
  · rw [decide_eq_false o]; rfl
/-- a place where a patch stands no longer -/
theorem pg_bad {t : List Change} {k : Nat} {f : Change} {prev : Option ByteArray} (hd : t.drop k = f :: t.drop (k + 1)) (h1 : changeFault f = 0 ∨ changeFault f = 2) (h2 : shapeB f = false ∨ prev.any (fun p => leqB f.path p) = true) (hs : shapeB f = false → changeFault f = 2) : patchGo k prev (t.drop k) = (k, 2) := by
  rw [hd, patchGo]
  by_cases e : changeFault f ≠ 0
  · rw [if_pos e, h1.resolve_left e]
  · rw [if_neg e]
    rcases h2 with h2 | h2
    · exact absurd (by rw [hs h2]; decide) e
    · rw [if_pos h2]
end Go.Proofs.YteocmmejfnmjcaaGreatDoor
