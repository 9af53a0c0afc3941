/-
  PARTS: THE WALKS of mail.Check, Print, field; of the document's Find, Starts, Ends, MailFault, MailText.; A SLICE OF HUNKS THAT THE CALL ITSELF BUILDS, OF WHICH THE LAST ONE STILL GROWS ('OwnLast'): pushed onto, its last one's marks pushed onto, closed. No program in sight.; A READER OF HUNKS IN MEMORY ('RdrAt'): a box of three cells: the hunks that have been read (the last one still grows), how many marks it needs.; THE WALKS: the laws' Hunk, Hunks.; THE WALK of hunk.near.
-/
import Derived.Test.YtjiaidchcldocaaGreatDoorPg2
import Derived.Test.YtjiaidchcldocaaGreatDoorPg3
import Derived.WalkLawsBesides
import Derived.Test.YtjiaidchcldocaaGreatDoorPg6
import Derived.Test.YtjiaidchcldocaaGreatDoorPg5
set_option linter.unusedVariables false
set_option linter.unusedSimpArgs false
namespace Go.Proofs.YtjiaidchcldocaaGreatDoor
open Go.RowKit

theorem box1_mail (w : World) (T : TypeId) (a b c : ByteArray) (v : Value) (W : World) (hW : W = w.alloc (.cells #[.string a, .string b, .string c, v] T)) :
    Chg Never w W ∧ W.cell? ⟨w.heap.size, 0, none⟩ = some (.string a) ∧ W.cell? ⟨w.heap.size, 1, none⟩ = some (.string b) ∧ W.cell? ⟨w.heap.size, 2, none⟩ = some (.string c) ∧ W.cell? ⟨w.heap.size, 3, none⟩ = some v := by
  subst hW
  have n := heap_alloc_new w (.cells #[.string a, .string b, .string c, v] T)
  refine ⟨(Chg.refl Never w).alloc _, ?_, ?_, ?_, ?_⟩ <;> (simp only [World.cell?]; rw [n]; rfl)
abbrev mailV (m : Mail) (v : Value) : Value := .agg #[.string m.sender, .string m.subject, .string m.ident, v]
/-- the three texts are no longer than a text may be -/
def MailSz (m : Mail) : Prop := m.sender.size ≤ maxLen ∧ m.subject.size ≤ maxLen ∧ m.ident.size ≤ maxLen
theorem mf_word1 {m : Mail} (h : wordB m.sender.data.toList = false) : mailFault m = 5 := if_pos (.inl h)
theorem mf_word2 {m : Mail} (h : wordB m.subject.data.toList = false) : mailFault m = 5 := if_pos (.inr (.inl h))
theorem mf_word3 {m : Mail} (h : wordB m.ident.data.toList = false) : mailFault m = 5 := if_pos (.inr (.inr (.inl h)))
theorem mf_lt {m : Mail} (h : 60 ∈ m.ident.data.toList) : mailFault m = 5 := if_pos (.inr (.inr (.inr (.inl h))))
theorem mf_gt {m : Mail} (h : 62 ∈ m.ident.data.toList) : mailFault m = 5 := if_pos (.inr (.inr (.inr (.inr h))))
theorem mf_rest {m : Mail} (h1 : wordB m.sender.data.toList = true) (h2 : wordB m.subject.data.toList = true) (h3 : wordB m.ident.data.toList = true) (h4 : 60 ∉ m.ident.data.toList) (h5 : 62 ∉ m.ident.data.toList) : mailFault m = if 40000 < m.body.length then 3 else 0 := by
  unfold mailFault
  rw [if_neg (by rw [h1, h2, h3]; simp [h4, h5])]

set_option maxHeartbeats 2000000 in
set_option maxRecDepth 100000 in
theorem mail_check_any (m : Mail) (v : Value) (w : World) (h : Rdv w Never v m.body) (hsz : MailSz m) :
    Calls Tryz.prog 97 #[mailV m v] w fun e w' => e = .returned (errV (mailFault m)) ∧ Chg Never w w' := by
  obtain ⟨a, cap, rfl, h1, h2, _⟩ := rdv_slice h
  unfold maxLen at h2
  obtain ⟨z1, z2, z3⟩ := hsz
  obtain ⟨hA, b0, b1, b2, b3⟩ := box1_mail w 31 m.sender m.subject m.ident (.slice a m.body.length cap) _ rfl
  cases w1 : wordB m.sender.data.toList with
  | false =>
    have HF := Lib.hid (mf_word1 w1)
    go_enter Tryz.func97, Tryz.ntmps97
    go_wp2_with (first | (go_at_call 148; refine (mail_word_any _ _ (by assumption)).mono ?_; rintro e w' ⟨rfl, rfl⟩) | (go_at_call 149; refine (Tryz.strings_Contains_one _ _ _).mono ?_; rintro e w' ⟨rfl, rfl⟩))
    go_ret
    exact ⟨by rw [HF.out]; rfl, hA⟩
  | true =>
    cases w2 : wordB m.subject.data.toList with
    | false =>
      have HF := Lib.hid (mf_word2 w2)
      go_enter Tryz.func97, Tryz.ntmps97
      go_wp2_with (first | (go_at_call 148; refine (mail_word_any _ _ (by assumption)).mono ?_; rintro e w' ⟨rfl, rfl⟩) | (go_at_call 149; refine (Tryz.strings_Contains_one _ _ _).mono ?_; rintro e w' ⟨rfl, rfl⟩))
      go_ret
      exact ⟨by rw [HF.out]; rfl, hA⟩
    | true =>
      cases w3 : wordB m.ident.data.toList with
      | false =>
        have HF := Lib.hid (mf_word3 w3)
        go_enter Tryz.func97, Tryz.ntmps97
        go_wp2_with (first | (go_at_call 148; refine (mail_word_any _ _ (by assumption)).mono ?_; rintro e w' ⟨rfl, rfl⟩) | (go_at_call 149; refine (Tryz.strings_Contains_one _ _ _).mono ?_; rintro e w' ⟨rfl, rfl⟩))
        go_ret
        exact ⟨by rw [HF.out]; rfl, hA⟩
      | true =>
        by_cases c1 : 60 ∈ m.ident.data.toList
        · have t1 : decide (0 ≤ Lib.indexByte m.ident.data.toList 60) = true := by rw [indexByte_nonneg]; simpa using c1
          have HF := Lib.hid (mf_lt c1)
          clear c1
          go_enter Tryz.func97, Tryz.ntmps97
          go_wp2_with (first | (go_at_call 148; refine (mail_word_any _ _ (by assumption)).mono ?_; rintro e w' ⟨rfl, rfl⟩) | (go_at_call 149; refine (Tryz.strings_Contains_one _ _ _).mono ?_; rintro e w' ⟨rfl, rfl⟩))
          go_ret
          exact ⟨by rw [HF.out]; rfl, hA⟩
        · have t1 : decide (0 ≤ Lib.indexByte m.ident.data.toList 60) = false := by rw [indexByte_nonneg]; simpa using c1
          by_cases c2 : 62 ∈ m.ident.data.toList
          · have t2 : decide (0 ≤ Lib.indexByte m.ident.data.toList 62) = true := by rw [indexByte_nonneg]; simpa using c2
            have HF := Lib.hid (mf_gt c2)
            clear c1 c2
            go_enter Tryz.func97, Tryz.ntmps97
            go_wp2_with (first | (go_at_call 148; refine (mail_word_any _ _ (by assumption)).mono ?_; rintro e w' ⟨rfl, rfl⟩) | (go_at_call 149; refine (Tryz.strings_Contains_one _ _ _).mono ?_; rintro e w' ⟨rfl, rfl⟩))
            go_ret
            exact ⟨by rw [HF.out]; rfl, hA⟩
          · have t2 : decide (0 ≤ Lib.indexByte m.ident.data.toList 62) = false := by rw [indexByte_nonneg]; simpa using c2
            have HR := Lib.hid (mf_rest w1 w2 w3 c1 c2)
            clear c1 c2
            by_cases hb : 40000 < m.body.length
            · have HF : Hid (mailFault m = 3) := by rw [Hid, HR.out, if_pos hb]
              go_enter Tryz.func97, Tryz.ntmps97
              go_wp2_with (first | (go_at_call 148; refine (mail_word_any _ _ (by assumption)).mono ?_; rintro e w' ⟨rfl, rfl⟩) | (go_at_call 149; refine (Tryz.strings_Contains_one _ _ _).mono ?_; rintro e w' ⟨rfl, rfl⟩))
              go_ret
              exact ⟨by rw [HF.out]; rfl, hA⟩
            · have HF : Hid (mailFault m = 0) := by rw [Hid, HR.out, if_neg hb]
              go_enter Tryz.func97, Tryz.ntmps97
              go_wp2_with (first | (go_at_call 148; refine (mail_word_any _ _ (by assumption)).mono ?_; rintro e w' ⟨rfl, rfl⟩) | (go_at_call 149; refine (Tryz.strings_Contains_one _ _ _).mono ?_; rintro e w' ⟨rfl, rfl⟩))
              go_ret
              exact ⟨by rw [HF.out]; rfl, hA⟩
end Go.Proofs.YtjiaidchcldocaaGreatDoor
namespace Go.Proofs.YtjiaidchcldocaaGreatDoor
open Go.RowKit

/-- append of one element to a row of the call's own, in raw cells -/
theorem run_push_raw {P : Program} {n : Nat} (hn : 0 < n) {t ty e : TypeId} (hP : ElemOk P t e n) {w0 : World} {v : Value} {m : Nat} {xs es : List Value} (E' : TypeId)
    (hx : w0.ownsRow 0 e n v m xs) (hl : es.length = n) (h1 : ∀ u ∈ es, u.oneCell' = true) (hlen : m ≤ 1000000000) :
    ∃ v' w', (Builtin.append_ #[t, t] ty #[v, .slice (some ⟨w0.heap.size, 0, none⟩) 1 1]).run P (w0.alloc (.cells es.toArray E')) = .ok v' w' ∧ w'.ownsRow 0 e n v' (m + 1) (xs ++ es) ∧ Chg (OwnB v) w0 w' ∧ (∃ k, v'.ownBlock = some k ∧ (v.ownBlock = some k ∨ w0.heap.size ≤ k)) := by
  obtain ⟨i, z, hi, hz, hsz, hzs, hby⟩ := hP.info
  have hnl : es.length = 1 * n := by omega
  have hcells : ∀ j u, es[j]? = some u → (w0.alloc (.cells es.toArray E')).cell? ((⟨w0.heap.size, 0, none⟩ : Addr).add j) = some u := by
    intro j u hj
    have e1 : (⟨w0.heap.size, 0, none⟩ : Addr).add j = ⟨w0.heap.size, j, none⟩ := by unfold Addr.add; split <;> simp_all
    rw [e1, World.cell?, heap_alloc_new]
    simpa using hj
  have hx' := hx.alloc (.cells es.toArray E')
  have hbound : (m + 1) * i.bytes ≤ 140737488355328 := by
    have := Nat.mul_le_mul (show m + 1 ≤ 1000000001 by omega) hby
    omega
  obtain ⟨v', w', hrun, hown', hgrow, hnil⟩ := run_append_own (P := P) (w0.alloc (.cells es.toArray E')) 0 t ty e i z n i.bytes hP.ht hi hz hsz rfl hzs hn v m xs hx'
    ⟨w0.heap.size, 0, none⟩ 1 1 es hnl hcells h1 (by unfold maxLen; omega) hbound (Nat.zero_le _)
  obtain ⟨kb, hkb, hkb'⟩ := append_block (P := P) (w0.alloc (.cells es.toArray E')) 0 t ty e i z n i.bytes hP.ht hi hz hsz rfl v m xs hx'
    ⟨w0.heap.size, 0, none⟩ 1 1 es hnl hcells h1 (by unfold maxLen; omega) hbound (by omega) hrun
  have hkb2 : v.ownBlock = some kb ∨ w0.heap.size ≤ kb := by
    rcases hkb' with h | h
    · exact .inl h
    · right; rw [h]; simp
  exact ⟨v', w', hrun, hown', ((Chg.refl (OwnB v) w0).alloc _).trans' (Chg.of_grown hgrow) (fun k _ hk => hk), kb, hkb, hkb2⟩

structure OwnLast (e em : TypeId) (w : World) (O : Nat → Prop) (v : Value) (init : List Hunk) (h : Hunk) (mv : Value) (xs : List Value) : Prop where
  row : w.ownsRow 0 e 3 v (init.length + 1) xs
  out : ∀ k, v.ownBlock = some k → ¬ O k
  firsts : ∀ (i : Nat) (x : Hunk), init[i]? = some x → Dat.rd w (fun k => (O k ∨ v.ownBlock = some k) ∨ mv.ownBlock = some k) ((xs.drop (i * 3)).take 3) x
  last : xs.drop (init.length * 3) = [.int .i64 h.old, .int .i64 h.new, mv]
  marks : Own em w (fun k => O k ∨ v.ownBlock = some k) mv h.marks

/-- closed, it is a slice as any other -/
theorem OwnLast.own {e em : TypeId} {w : World} {O : Nat → Prop} {v : Value} {init : List Hunk} {h : Hunk} {mv : Value} {xs : List Value} (hl : OwnLast e em w O v init h mv xs) : Own e w O v (init ++ [h]) := by
  obtain ⟨h1, h2, h3, h4, h5⟩ := hl
  refine ⟨xs, by rw [List.length_append]; exact h1, h2, ?_⟩
  intro i x hx
  rcases Nat.lt_or_ge i init.length with hi | hi
  · rw [List.getElem?_append_left hi] at hx
    exact Dat.keep (h3 i x hx) (Chg.refl Never w) (fun _ _ h => h.elim) (fun k _ ho => .inl ho)
  · have hil : i = init.length := by
      have := (List.getElem?_eq_some_iff.1 hx).1
      simp at this
      omega
    subst hil
    simp at hx
    subst hx
    show Dat.rd w _ ((xs.drop (init.length * 3)).take 3) h
    rw [h4]
    exact ⟨mv, rfl, h5.rdv⟩

/-- its shape, and the place of the last one's marks -/
theorem OwnLast.shape {e em : TypeId} {w : World} {O : Nat → Prop} {v : Value} {init : List Hunk} {h : Hunk} {mv : Value} {xs : List Value} (hl : OwnLast e em w O v init h mv xs) :
    ∃ g cap, v = .slice (some ⟨g, 0, none⟩) (init.length + 1) cap ∧ g < w.heap.size ∧ ¬ O g ∧ init.length + 1 ≤ cap ∧ cap ≤ maxLen ∧ w.cell? ⟨g, init.length * 3 + 2, none⟩ = some mv ∧ w.cell? ⟨g, init.length * 3, none⟩ = some (.int .i64 h.old) ∧ w.cell? ⟨g, init.length * 3 + 1, none⟩ = some (.int .i64 h.new) ∧ ∀ j, w.frozen? ⟨g, j, none⟩ = false := by
  obtain ⟨h1, h2, h3, h4, h5⟩ := hl
  have h1' := h1
  rcases h1.2 with ⟨rfl, h0⟩ | ⟨g, cap, cur, rfl, hg, hh, hnc, hm, hcs, htake⟩
  · cases h0
  · have hc : ∀ j, j < 3 → w.cell? ⟨g, init.length * 3 + j, none⟩ = (xs.drop (init.length * 3))[j]? := by
      intro j hj
      rw [h1'.cellAt (init.length * 3 + j) (by omega), List.getElem?_drop]
    refine ⟨g, cap, rfl, (h1'.lt g rfl).2, h2 g rfl, hnc, hm, ?_, ?_, ?_, fun j => h1'.frozenAt j⟩
    · rw [hc 2 (by omega), h4]; rfl
    · rw [← Nat.add_zero (init.length * 3), hc 0 (by omega), h4]; rfl
    · rw [hc 1 (by omega), h4]; rfl

/-- a hunk more, without marks -/
theorem run_push_last {P : Program} {t ty e em : TypeId} (hP : ElemOk P t e 3) {w0 : World} {O : Nat → Prop} {v : Value} {l : List Hunk} {o n : Int} (E' : TypeId)
    (hown : Own e w0 O v l) (hO : ∀ k, O k → k < w0.heap.size) (hlen : l.length ≤ 1000000000) :
    ∃ v' w', (Builtin.append_ #[t, t] ty #[v, .slice (some ⟨w0.heap.size, 0, none⟩) 1 1]).run P (w0.alloc (.cells #[.int .i64 o, .int .i64 n, .slice none 0 0] E')) = .ok v' w' ∧ (∃ xs, OwnLast e em w' O v' l ⟨o, n, []⟩ (.slice none 0 0) xs) ∧ Chg (OwnB v) w0 w' := by
  obtain ⟨xs, hx, hb, hel⟩ := id hown
  obtain ⟨v', w', hrun, hrow, hc, kb, hkb, hkb2⟩ := run_push_raw (by decide) hP (ty := ty) (es := [.int .i64 o, .int .i64 n, .slice none 0 0]) E' hx rfl (by intro u hu; simp at hu; rcases hu with rfl | rfl | rfl <;> rfl) hlen
  have hxl : xs.length = l.length * 3 := hx.1
  have hout : ∀ k, v'.ownBlock = some k → ¬ O k := by
    intro k hk ho
    rw [hkb] at hk
    injection hk with hk
    subst hk
    rcases hkb2 with h | h
    · exact hb _ h ho
    · exact absurd (hO _ ho) (by omega)
  refine ⟨v', w', hrun, ⟨xs ++ [.int .i64 o, .int .i64 n, .slice none 0 0], hrow, hout, ?_, ?_, own_nil _ _ _⟩, hc⟩
  · intro i x hi
    have hil := (List.getElem?_eq_some_iff.1 hi).1
    have hr := hel i x hi
    have hle : i * 3 + 3 ≤ xs.length := by omega
    rw [List.drop_append_of_le_length (by omega), List.take_append_of_le_length (by rw [List.length_drop]; omega)]
    refine Dat.keep hr hc (fun k _ hk => .inr hk) ?_
    rintro k hk ((h | h) | h)
    · exact .inl h
    · rw [hkb] at h
      injection h with h
      subst h
      rcases hkb2 with h | h
      · exact .inr h
      · omega
    · cases h
  · rw [← hxl, List.drop_left]
theorem wpList_push_last {P : Program} {ops : Array Oper} {rest : List Oper} {o : Oper} {a : Act} {Q : Exit → Act → World → Prop} (hgd : o.guard = none) (s x : Operand) (t : TypeId)
    (ho : o.op = .call { callee := .builtin .append, args := #[s, x], argTypes := #[t, t] }) {e : TypeId} (em : TypeId) (hP : ElemOk P t e 3) {w0 : World} {O : Nat → Prop} {v : Value} {l : List Hunk} {old new : Int} {E' : TypeId} {B : Nat}
    (hs : a.eval s = v) (hx : a.eval x = .slice (some ⟨B, 0, none⟩) 1 1) (hB : B = w0.heap.size)
    (hown : Own e w0 O v l) (hO : ∀ k, O k → k < w0.heap.size) (hlen : l.length ≤ 1000000000)
    (h : ∀ v' w' xs, OwnLast e em w' O v' l ⟨old, new, []⟩ (.slice none 0 0) xs → Chg (OwnB v) w0 w' → wpList P ops Q rest (a.put o.dst v') w') :
    wpList P ops Q (o :: rest) a (w0.alloc (.cells #[.int .i64 old, .int .i64 new, .slice none 0 0] E')) := by
  subst hB
  refine wpList_plain hgd fun K hK => ?_
  obtain ⟨v', w', hrun, ⟨xs, h1⟩, h2⟩ := run_push_last (ty := o.type) (em := em) (o := old) (n := new) hP E' hown hO hlen
  unfold Oper.wp execOp
  simp only [ho, resolve, invoke, builtin, Sem.run_bind, Sem.run_pure, Result.andThen_ok, List.map_toArray, List.map_cons, List.map_nil, hs, hx, hrun]
  exact hK _ _ (h v' w' xs h1 h2)

/-- the last one's marks, grown by an append in w0 → w1, are stored back -/
theorem OwnLast.stored {e em : TypeId} {w0 w1 : World} {O : Nat → Prop} {g n cap : Nat} {init : List Hunk} {h : Hunk} {mv mv' : Value} {xs : List Value} {ms : List Mark}
    (hl : OwnLast e em w0 O (.slice (some ⟨g, 0, none⟩) n cap) init h mv xs)
    (hown : Own em w1 (fun k => O k ∨ (Value.slice (some ⟨g, 0, none⟩) n cap).ownBlock = some k) mv' ms) (hc : Chg (OwnB mv) w0 w1) (hk : ∃ k, mv'.ownBlock = some k ∧ (mv.ownBlock = some k ∨ w0.heap.size ≤ k)) :
    OwnLast e em (w1.setCell ⟨g, init.length * 3 + 2, none⟩ mv') O (.slice (some ⟨g, 0, none⟩) n cap) init ⟨h.old, h.new, ms⟩ mv' (xs.set (init.length * 3 + 2) mv') := by
  obtain ⟨h1, h2, h3, h4, h5⟩ := hl
  obtain ⟨kb, hkb, hkb2⟩ := hk
  have hn : n = init.length + 1 := by
    rcases h1.2 with ⟨h, _⟩ | ⟨g', cap', cur, h, _⟩
    · cases h
    · simp only [Value.slice.injEq] at h
      exact h.2.1
  subst hn
  have hg0 : g < w0.heap.size := (h1.lt g rfl).2
  have hgm : ¬ OwnB mv g := by
    obtain ⟨_, _, q, _⟩ := h5
    exact fun hh => q g hh (.inr rfl)
  have row1 : w1.ownsRow 0 e 3 (.slice (some ⟨g, 0, none⟩) (init.length + 1) cap) (init.length + 1) xs := by
    refine ⟨h1.1, ?_⟩
    rcases h1.2 with h | ⟨g', cap', cur, hv, r1, r2, r3⟩
    · exact .inl h
    · simp only [Value.slice.injEq, Option.some.injEq, Addr.mk.injEq, and_true, true_and] at hv
      obtain ⟨rfl, rfl⟩ := hv
      exact .inr ⟨g, cap, cur, rfl, r1, (hc.block g hg0 hgm).trans r2, r3⟩
  have hst := (row1.stored (init.length * 3 + 2) mv').1
  have hc2 : Chg (fun k => k = g) w1 (w1.setCell ⟨g, init.length * 3 + 2, none⟩ mv') := (Chg.refl (fun k => k = g) w1).setCell (p := ⟨g, init.length * 3 + 2, none⟩) (.inr rfl) mv'
  have hxl : xs.length = (init.length + 1) * 3 := h1.1
  refine ⟨hst, h2, ?_, ?_, ?_⟩
  · intro i x hi
    have hil := (List.getElem?_eq_some_iff.1 hi).1
    have hr := h3 i x hi
    have e1 : ((xs.set (init.length * 3 + 2) mv').drop (i * 3)).take 3 = (xs.drop (i * 3)).take 3 := by
      apply List.ext_getElem?
      intro j
      rw [List.getElem?_take, List.getElem?_take]
      by_cases hj : j < 3
      · rw [if_pos hj, if_pos hj, List.getElem?_drop, List.getElem?_drop, List.getElem?_set_ne (by omega)]
      · rw [if_neg hj, if_neg hj]
    rw [e1]
    refine Dat.keep (Dat.keep hr hc (O'' := fun k => (O k ∨ (Value.slice (some ⟨g, 0, none⟩) (init.length + 1) cap).ownBlock = some k) ∨ mv'.ownBlock = some k) (fun k _ hk => .inr hk) ?_) hc2 ?_ (fun k _ h => h)
    · rintro k hk (h | h)
      · exact .inl h
      · rw [hkb] at h
        injection h with h
        subst h
        rcases hkb2 with h | h
        · exact .inr h
        · omega
    · rintro k _ rfl
      exact .inl (.inr rfl)
  · apply List.ext_getElem?
    intro j
    have h4j : xs[init.length * 3 + j]? = [Value.int .i64 h.old, .int .i64 h.new, mv][j]? := by rw [← List.getElem?_drop, h4]
    rw [List.getElem?_drop]
    match j with
    | 0 => rw [List.getElem?_set_ne (by omega), h4j]; rfl
    | 1 => rw [List.getElem?_set_ne (by omega), h4j]; rfl
    | 2 => rw [List.getElem?_set_self (by omega)]; rfl
    | j + 3 => rw [List.getElem?_set_ne (by omega), h4j]; rfl
  · refine hown.keep hc2 ?_ (fun k _ h => h)
    rintro k _ rfl
    exact .inr rfl

theorem OwnLast.keep {e em : TypeId} {w w' : World} {O : Nat → Prop} {v : Value} {init : List Hunk} {h : Hunk} {mv : Value} {xs : List Value} (hl : OwnLast e em w O v init h mv xs) (hc : Chg Never w w') : OwnLast e em w' O v init h mv xs := by
  obtain ⟨h1, h2, h3, h4, h5⟩ := hl
  refine ⟨⟨h1.1, ?_⟩, h2, fun i x hi => Dat.never (h3 i x hi) hc, h4, h5.never hc⟩
  rcases h1.2 with h | ⟨g', cap', cur, hv, r1, r2, r3⟩
  · exact .inl h
  · subst hv
    exact .inr ⟨g', cap', cur, rfl, r1, (hc.block g' (h1.lt g' rfl).2 (fun x => x)).trans r2, r3⟩
end Go.Proofs.YtjiaidchcldocaaGreatDoor
namespace Go.Proofs.YtjiaidchcldocaaGreatDoor
open Go.RowKit

theorem OwnLast.keepO {e em : TypeId} {w w' : World} {O O' O'' : Nat → Prop} {v : Value} {init : List Hunk} {h : Hunk} {mv : Value} {xs : List Value} (hl : OwnLast e em w O v init h mv xs) (hc : Chg O' w w')
    (k1 : ∀ k, k < w.heap.size → O' k → O k) (k2 : ∀ k, k < w.heap.size → O'' k → O k) : OwnLast e em w' O'' v init h mv xs := by
  obtain ⟨h1, h2, h3, h4, h5⟩ := hl
  have hlt := fun k hk => (h1.lt k hk).2
  refine ⟨⟨h1.1, ?_⟩, fun k hk ho => h2 k hk (k2 k (hlt k hk) ho), fun i x hi => ?_, h4, ?_⟩
  · rcases h1.2 with h | ⟨g', cap', cur, hv, r1, r2, r3⟩
    · exact .inl h
    · subst hv
      exact .inr ⟨g', cap', cur, rfl, r1, (hc.block g' (hlt g' rfl) (fun ho => h2 g' rfl (k1 g' (hlt g' rfl) ho))).trans r2, r3⟩
  · refine Dat.keep (h3 i x hi) hc (fun k hk ho => .inl (.inl (k1 k hk ho))) ?_
    rintro k hk ((ho | ho) | ho)
    · exact .inl (.inl (k2 k hk ho))
    · exact .inl (.inr ho)
    · exact .inr ho
  · refine h5.keep hc (fun k hk ho => .inl (k1 k hk ho)) ?_
    rintro k hk (ho | ho)
    · exact .inl (k2 k hk ho)
    · exact .inr ho

/-- the blocks that a reader's rows avoid: what was there before, and its own box -/
def RdO (W0 B : Nat) : Nat → Prop := fun k => k < W0 ∨ k = B
/-- the blocks that a reader may change: its own box, and what is made from W0 on -/
def RdC (W0 B : Nat) : Nat → Prop := fun k => k = B ∨ W0 ≤ k
structure RdrAt (w : World) (W0 B : Nat) (v : Value) (hs : List Hunk) (o n : Nat) : Prop where
  base : W0 ≤ w.heap.size
  box : Blk3 w B 205 v (.int .i64 o) (.int .i64 n)
  rows : (hs = [] ∧ v = .slice none 0 0) ∨ ∃ init h mv xs, hs = init ++ [h] ∧ OwnLast 129 126 w (RdO W0 B) v init h mv xs
theorem RdrAt.own {w : World} {W0 B : Nat} {v : Value} {hs : List Hunk} {o n : Nat} (h : RdrAt w W0 B v hs o n) : Own 129 w (RdO W0 B) v hs := by
  rcases h.rows with ⟨rfl, rfl⟩ | ⟨init, x, mv, xs, rfl, hl⟩
  · exact own_nil _ _ _
  · exact hl.own
theorem RdrAt.keep {w w' : World} {W0 B : Nat} {v : Value} {hs : List Hunk} {o n : Nat} (h : RdrAt w W0 B v hs o n) (hc : Chg Never w w') : RdrAt w' W0 B v hs o n := by
  refine ⟨Nat.le_trans h.base hc.size, h.box.keep hc (fun x => x), ?_⟩
  rcases h.rows with q | ⟨init, x, mv, xs, e, hl⟩
  · exact .inl q
  · exact .inr ⟨init, x, mv, xs, e, hl.keep hc⟩
theorem RdrAt.new (w : World) : RdrAt (w.alloc (.cells #[.slice none 0 0, .int .i64 0, .int .i64 0] 205)) w.heap.size w.heap.size (.slice none 0 0) [] 0 0 :=
  ⟨Nat.le_of_lt (by simp), Blk3.new w _ _ _ _, .inl ⟨rfl, rfl⟩⟩
theorem RdrAt.start {w : World} {W0 B : Nat} (h : Blk3 w B 205 (.slice none 0 0) (.int .i64 (0 : Nat)) (.int .i64 (0 : Nat))) (hw : W0 ≤ w.heap.size) : RdrAt w W0 B (.slice none 0 0) [] 0 0 := ⟨hw, h, .inl ⟨rfl, rfl⟩⟩
/-- the box's cells may be written -/
theorem RdrAt.set {w w' : World} {W0 B : Nat} {v : Value} {hs : List Hunk} {o n o' n' : Nat} (h : RdrAt w W0 B v hs o n) (hb : Blk3 w' B 205 v (.int .i64 o') (.int .i64 n')) (hc : Chg (fun k => k = B) w w') : RdrAt w' W0 B v hs o' n' := by
  refine ⟨Nat.le_trans h.base hc.size, hb, ?_⟩
  rcases h.rows with q | ⟨init, x, mv, xs, e, hl⟩
  · exact .inl q
  · exact .inr ⟨init, x, mv, xs, e, hl.keepO hc (fun _ _ hk => .inr hk) (fun _ _ hk => hk)⟩
theorem RdrAt.nil {w : World} {W0 B : Nat} {v : Value} {o n : Nat} (h : RdrAt w W0 B v [] o n) : v = .slice none 0 0 := by
  rcases h.rows with ⟨_, q⟩ | ⟨init, x, mv, xs, e, hl⟩
  · exact q
  · simp at e
theorem RdrAt.lt {w : World} {W0 B : Nat} {v : Value} {hs : List Hunk} {o n : Nat} (h : RdrAt w W0 B v hs o n) : B < w.heap.size := h.box.lt
/-- read, it is as any other slice -/
theorem RdrAt.rdv {w : World} {W0 B : Nat} {v : Value} {hs : List Hunk} {o n : Nat} (h : RdrAt w W0 B v hs o n) : Rdv w (RdO W0 B) v hs := h.own.rdv
end Go.Proofs.YtjiaidchcldocaaGreatDoor
namespace Go.Proofs.YtjiaidchcldocaaGreatDoor
open Go.RowKit

theorem box3' {w w1 : World} {x y z x' y' z' : Value} {t t' : TypeId} (hc : Chg Never ((w.alloc (.cells #[x, y, z] t)).alloc (.cells #[x', y', z'] t')) w1) :
    (w1.cell? ⟨w.heap.size, 0, none⟩ = some x ∧ w1.cell? ⟨w.heap.size, 1, none⟩ = some y ∧ w1.cell? ⟨w.heap.size, 2, none⟩ = some z) ∧
    (w1.cell? ⟨w.heap.size + 1, 0, none⟩ = some x' ∧ w1.cell? ⟨w.heap.size + 1, 1, none⟩ = some y' ∧ w1.cell? ⟨w.heap.size + 1, 2, none⟩ = some z') := by
  have h1 := box3 (((Chg.refl Never _).alloc (.cells #[x', y', z'] t')).trans hc)
  have h2 := box3 hc
  simp only [World.size_alloc] at h2
  exact ⟨h1, h2⟩


theorem hunk_eq_any (h k : Hunk) (hv kv : Value) (w : World) (hh : Rdv w Never hv h.marks) (hk : Rdv w Never kv k.marks) :
    Calls Tryz.prog 112 #[.agg #[.int .i64 h.old, .int .i64 h.new, hv], .agg #[.int .i64 k.old, .int .i64 k.new, kv]] w fun e w' => e = .returned (.bool (decide (h = k))) ∧ Chg Never w w' := by
  obtain ⟨a, cap, rfl, _, _, _⟩ := rdv_slice hh
  obtain ⟨b, cap', rfl, _, _, _⟩ := rdv_slice hk
  have E : decide (h = k) = (decide (h.marks = k.marks) && h.old == k.old && h.new == k.new) := by
    obtain ⟨ho, hn, hm⟩ := h
    obtain ⟨ko, kn, km⟩ := k
    by_cases h1 : ho = ko <;> by_cases h2 : hn = kn <;> by_cases h3 : hm = km <;> simp [h1, h2, h3]
  rw [E]
  clear E
  by_cases hm : h.marks = k.marks
  · rw [decide_eq_true hm]
    have HM := Lib.hid (decide_eq_true hm)
    clear hm
    by_cases ho : h.old = k.old
    · have t1 : (h.old == k.old) = true := by simp [ho]
      rw [t1]
      clear ho
      go_enter Tryz.func112, Tryz.ntmps112
      go_wp2_with fail
      refine (marks_any h.marks k.marks _ _ _ (hh.never (((Chg.refl _ _).alloc _).alloc _)) (hk.never (((Chg.refl _ _).alloc _).alloc _))).mono ?_
      rintro e w1 ⟨rfl, hc1⟩
      obtain ⟨⟨x0, x1, x2⟩, ⟨y0, y1, y2⟩⟩ := box3' hc1
      have hw : Chg Never w w1 := (((Chg.refl _ _).alloc _).alloc _).trans hc1
      clear hc1
      rw [HM.out]
      go_wp2_with fail
      go_ret
      exact ⟨rfl, hw⟩
    · have t1 : (h.old == k.old) = false := by simp [ho]
      rw [t1]
      clear ho
      go_enter Tryz.func112, Tryz.ntmps112
      go_wp2_with fail
      refine (marks_any h.marks k.marks _ _ _ (hh.never (((Chg.refl _ _).alloc _).alloc _)) (hk.never (((Chg.refl _ _).alloc _).alloc _))).mono ?_
      rintro e w1 ⟨rfl, hc1⟩
      obtain ⟨⟨x0, x1, x2⟩, ⟨y0, y1, y2⟩⟩ := box3' hc1
      have hw : Chg Never w w1 := (((Chg.refl _ _).alloc _).alloc _).trans hc1
      clear hc1
      rw [HM.out]
      go_wp2_with fail
      go_ret
      exact ⟨rfl, hw⟩
  · rw [decide_eq_false hm]
    have HM := Lib.hid (decide_eq_false hm)
    clear hm
    go_enter Tryz.func112, Tryz.ntmps112
    go_wp2_with fail
    refine (marks_any h.marks k.marks _ _ _ (hh.never (((Chg.refl _ _).alloc _).alloc _)) (hk.never (((Chg.refl _ _).alloc _).alloc _))).mono ?_
    rintro e w1 ⟨rfl, hc1⟩
    obtain ⟨⟨x0, x1, x2⟩, ⟨y0, y1, y2⟩⟩ := box3' hc1
    have hw : Chg Never w w1 := (((Chg.refl _ _).alloc _).alloc _).trans hc1
    clear hc1
    rw [HM.out]
    go_wp2_with fail
    go_ret
    exact ⟨rfl, hw⟩

set_option maxRecDepth 100000 in
theorem hunks_eq_any (l m : List Hunk) (v u : Value) (w : World) (h : Rdv w Never v l) (g : Rdv w Never u m) :
    Calls Tryz.prog 69 #[v, u] w fun e w' => e = .returned (.bool (decide (l = m))) ∧ Chg Never w w' := by
  obtain ⟨a, cap, rfl, h1, h2, h3⟩ := rdv_slice h
  obtain ⟨c, cap', rfl, g1, g2, g3⟩ := rdv_slice g
  unfold maxLen at h2 g2
  by_cases h4 : l.length = m.length
  · have h4' : ((l.length : Int) != m.length) = false := by simp [h4]
    have H4 := Lib.hid h4
    clear h4
    go_enter Tryz.func69, Tryz.ntmps69
    go_wp2
    go_loopw [5] (fun i wr => ∃ k : Nat, k ≤ l.length ∧ i = .int .i64 k ∧ Hid (l.take k = m.take k) ∧ Chg Never w wr) (fun i _ => l.length - (intOf i).toNat)
    case atStart => exact ⟨0, Nat.zero_le _, rfl, by simp [Hid], Chg.refl _ _⟩
    case round =>
      obtain ⟨k, hk, rfl, hf, hc⟩ := hrel
      by_cases hlt : k < l.length
      · obtain ⟨x, hx⟩ : ∃ x, l[k]? = some x := ⟨l[k], by simp [hlt]⟩
        obtain ⟨y, hy⟩ : ∃ y, m[k]? = some y := ⟨m[k]'(by rw [← H4.out]; exact hlt), by simp [H4.out ▸ hlt]⟩
        obtain ⟨b, off, mv, rfl, _, _, c0, c1, c2, hmv⟩ := elems_hunk h3 hx
        obtain ⟨b', off', mv', rfl, _, _, d0, d1, d2, hmv'⟩ := elems_hunk g3 hy
        have c0 := hc.cellNever c0
        have c1 := hc.cellNever c1
        have c2 := hc.cellNever c2
        have d0 := hc.cellNever d0
        have d1 := hc.cellNever d1
        have d2 := hc.cellNever d2
        have hmv := hmv.never hc
        have hmv' := hmv'.never hc
        clear h3 g3 h g
        have hlm : k < m.length := by rw [← H4.out]; exact hlt
        have HX := Lib.hid hx
        have HY := Lib.hid hy
        clear hx hy
        have b1 : (k : Int) < l.length := by omega
        have b2 : (k : Int) < m.length := by omega
        go_wp2_with fail
        refine wp_region_still_tail 8 (by kernel_rfl) (by kernel_rfl) ?_
        simp only [List.take_succ_cons, List.take_zero, List.drop_succ_cons, List.drop_zero]
        change wpStill _ _ wr.drew _ _ _
        repeat still_step
        refine wpStill_nil ?_
        change wpList _ _ _ _ _ wr.drew
        have hcd : Chg Never w wr.drew := hc.drew
        have hmd := hmv.never ((Chg.refl Never wr).drew)
        have hmd' := hmv'.never ((Chg.refl Never wr).drew)
        generalize wr.drew = w3 at hcd hmd hmd'
        go_wp2_with fail
        refine (hunk_eq_any x y _ _ _ hmd hmd').mono ?_
        rintro e w4 ⟨rfl, hc4⟩
        have hc5 := hcd.trans hc4
        by_cases hxy : x = y
        · subst hxy
          rw [decide_eq_true rfl]
          go_wp2_with fail
          go_roundw
          case rel => exact ⟨k + 1, by omega, by go_num, take_same hf HX.out HY.out, hc5⟩
          case measure => simp [intOf] <;> omega
        · rw [decide_eq_false hxy]
          go_wp2_with fail
          go_ret
          exact ⟨by rw [decide_eq_false (ne_of_get HX.out HY.out hxy)]; rfl, hc5⟩
      · go_wp2
        go_ret
        have E : l = m := by
          have := hf.out
          rwa [List.take_of_length_le (by omega), List.take_of_length_le (by rw [← H4.out]; omega)] at this
        exact ⟨by rw [decide_eq_true E]; rfl, hc⟩
  · have h4' : ((l.length : Int) != m.length) = true := by simp; omega
    go_enter Tryz.func69, Tryz.ntmps69
    go_wp2
    go_ret
    exact ⟨by rw [decide_eq_false (fun e => h4 (by rw [e]))]; rfl, Chg.refl _ _⟩
end Go.Proofs.YtjiaidchcldocaaGreatDoor
namespace Go.Proofs.YtjiaidchcldocaaGreatDoor
open Go.RowKit

/-- which marks are near one of the first i -/
def nearTo (s : List Mark) (n : Int) (i k : Nat) : Bool :=
  (List.range i).any fun j => (s[j]?.any isChange) && decide ((k : Int) ≤ j + n) && decide ((j : Int) ≤ k + n) && (k == j || (s[k]?.any fun m => m.sign == 32))
def BoolRow (B : Nat) (wr : World) (len : Nat) (f : Nat → Bool) : Prop :=
  ∃ c : Array Value, wr.heap[B]? = some (.cells c 4 (0, 0)) ∧ c.size = len ∧ ∀ k, k < len → c[k]? = some (.bool (f k))

theorem BoolRow.cell {B : Nat} {wr : World} {len : Nat} {f : Nat → Bool} (h : BoolRow B wr len f) {k : Nat} (hk : k < len) : wr.cell? ⟨B, k, none⟩ = some (.bool (f k)) := by
  obtain ⟨c, h1, h2, h3⟩ := h
  simp only [World.cell?, h1]
  exact h3 k hk
theorem BoolRow.free {B : Nat} {wr : World} {len : Nat} {f : Nat → Bool} (h : BoolRow B wr len f) (k : Nat) : wr.frozen? ⟨B, k, none⟩ = false := by
  obtain ⟨c, h1, h2, h3⟩ := h
  simp [World.frozen?, h1]
theorem BoolRow.keep {B : Nat} {wr w' : World} {len : Nat} {f : Nat → Bool} {O : Nat → Prop} (h : BoolRow B wr len f) (hc : Chg O wr w') (hB : ¬ O B) : BoolRow B w' len f := by
  obtain ⟨c, h1, h2⟩ := h
  refine ⟨c, ?_, h2⟩
  rw [hc.block B (Array.getElem?_eq_some_iff.1 h1).1 hB]
  exact h1
theorem BoolRow.set {B : Nat} {wr : World} {len : Nat} {f : Nat → Bool} (h : BoolRow B wr len f) {k : Nat} (hk : k < len) (b : Bool) {g : Nat → Bool} (hg : ∀ j, j < len → g j = if j = k then b else f j) :
    BoolRow B (wr.setCell ⟨B, k, none⟩ (.bool b)) len g := by
  obtain ⟨c, h1, h2, h3⟩ := h
  refine ⟨c.setIfInBounds k (.bool b), ?_, by simpa using h2, ?_⟩
  · simp [World.setCell, Array.getElem?_modify, h1]
  · intro j hj
    rw [Array.getElem?_setIfInBounds, hg j hj]
    by_cases e : j = k
    · subst e; simp [h2, hj]
    · rw [if_neg (fun h => e h.symm), if_neg e]; exact h3 j hj

def keptAt (s : List Mark) (k : Nat) : Bool := s[k]?.any fun m => m.sign == 32
def inWin (n : Int) (i k : Nat) : Bool := decide ((k : Int) ≤ i + n) && decide ((i : Int) ≤ k + n)
theorem nearTo_succ {s : List Mark} {n : Int} {i k : Nat} {x : Mark} (hx : s[i]? = some x) :
    nearTo s n (i + 1) k = (nearTo s n i k || (isChange x && inWin n i k && (k == i || keptAt s k))) := by
  unfold nearTo inWin keptAt
  rw [List.range_succ, List.any_append]
  simp [hx, Bool.and_assoc]
theorem nearTo_kept {s : List Mark} {n : Int} {i : Nat} {x : Mark} (hx : s[i]? = some x) (h : x.sign = 32) : nearTo s n i = nearTo s n (i + 1) := by
  funext k
  rw [nearTo_succ hx]
  simp [isChange, h]
/-- the row in the midst of mark i: done from lo to c -/
def midRow (s : List Mark) (n : Int) (i : Nat) (c : Int) (k : Nat) : Bool := if (k : Int) < c then nearTo s n (i + 1) k else nearTo s n i k
theorem midRow_start {s : List Mark} {n : Int} {i : Nat} {x : Mark} (hx : s[i]? = some x) (_hn : 0 ≤ n) (k : Nat) : midRow s n i (max 0 ((i : Int) - n)) k = nearTo s n i k := by
  unfold midRow
  split
  · rw [nearTo_succ hx]
    have : inWin n i k = false := by
      unfold inWin
      rename_i h
      have : decide ((i : Int) ≤ k + n) = false := by simp; omega
      simp [this]
    simp [this]
  · rfl
theorem midRow_end {s : List Mark} {n : Int} {i : Nat} {x : Mark} {c : Int} (hx : s[i]? = some x) (hc : min ((s.length : Int) - 1) (i + n) < c) {k : Nat} (hk : k < s.length) : midRow s n i c k = nearTo s n (i + 1) k := by
  unfold midRow
  split
  · rfl
  · rw [nearTo_succ hx]
    have : inWin n i k = false := by
      unfold inWin
      rename_i h
      have : decide ((k : Int) ≤ i + n) = false := by simp; omega
      simp [this]
    simp [this]
theorem midRow_step {s : List Mark} {n : Int} {i c : Nat} (j : Nat) : midRow s n i ((c : Int) + 1) j = if j = c then nearTo s n (i + 1) c else midRow s n i c j := by
  unfold midRow
  by_cases h : j = c
  · subst h; simp; omega
  · rw [if_neg h]
    by_cases h1 : (j : Int) < c
    · rw [if_pos h1, if_pos (by omega)]
    · rw [if_neg h1, if_neg (by omega)]
theorem nearTo_inAt {s : List Mark} {n : Int} (hn : 0 ≤ n) {k : Nat} (hk : k < s.length) : nearTo s n s.length k = inAt s n k := by
  rw [Bool.eq_iff_iff]
  unfold nearTo inAt
  rw [List.any_eq_true, List.any_eq_true]
  have hsk : s[k]? = some s[k] := by simp [hk]
  constructor
  · rintro ⟨j, hj, hp⟩
    rw [Bool.and_eq_true] at hp
    exact ⟨j, hj, hp.1⟩
  · rintro ⟨j, hj, hp⟩
    by_cases hc : (s[k]).sign = 32
    · refine ⟨j, hj, ?_⟩
      rw [Bool.and_eq_true]
      exact ⟨hp, by simp [hsk, hc]⟩
    · refine ⟨k, List.mem_range.2 hk, ?_⟩
      simp [hsk, isChange, hc]
      omega

theorem boolRow_made {w1 : World} {B len : Nat} (h : w1.ownsRow 0 4 1 (.slice (some ⟨B, 0, none⟩) len len) len (madeCells (Value.bool false).cells (len * 1)).toList) : BoolRow B w1 len fun _ => false := by
  obtain ⟨_, hx⟩ := h
  rcases hx with ⟨h, _⟩ | ⟨g, cap, cur, hv, _, hh, hn, hm, hcs, htake⟩
  · cases h
  · injection hv with hv1 _ hv3
    injection hv1 with hv1
    injection hv1 with hv1
    subst hv1 hv3
    refine ⟨cur, hh, by simpa using hcs, ?_⟩
    intro k hk
    have e : cur.toList[k]? = (cur.toList.take (len * 1))[k]? := by rw [List.getElem?_take, if_pos (by omega)]
    rw [← Array.getElem?_toList, e, htake]
    simp [madeCells, Value.cells, hk, Nat.mod_one]

set_option maxHeartbeats 800000 in
theorem near_any (s : List Mark) (n : Int) (v : Value) (w : World) (h : Rdv w Never v s) (hl : s.length ≤ 120) (hn : 0 ≤ n) (hn' : n ≤ 1000) :
    Calls Tryz.prog 200 #[v, .int .i64 n] w fun e w' => e = .returned (.slice (some ⟨w.heap.size, 0, none⟩) s.length s.length) ∧ Chg Never w w' ∧ BoolRow w.heap.size w' s.length (inAt s n) := by
  obtain ⟨a, cap, rfl, h1, h2, h3⟩ := rdv_slice h
  unfold maxLen at h2
  obtain ⟨ib, ib1, ib2, ib3, ib4⟩ := info_parts (show (Tryz.prog.info? 4).map (fun i => (i.zero, i.size, i.bytes)) = some (some (.bool false), 1, 1) by kernel_rfl)
  go_enter Tryz.func200, Tryz.ntmps200
  go_wp2_with (at_make; refine wpList_make_full _ rfl _ _ 290 rfl 0 4 ib (.bool false) 1 Tryz.underlying290 ib1 ib2 ib3 .i64 .i64 _ _ s.length rfl rfl rfl rfl (by rw [ib4]; omega) (by unfold maxLen; omega) (Nat.zero_le _) ?_; intro w1 hown hgrow)
  have hB := boolRow_made hown
  have hc := (Chg.refl Never w).trans' (Chg.of_grown hgrow) (fun _ _ h => by cases h)
  clear hown hgrow
  go_loopw [8, 14] (fun _ i wr => ∃ k : Nat, k ≤ s.length ∧ i = .int .i64 k ∧ Chg Never w wr ∧ BoolRow w.heap.size wr s.length (nearTo s n k)) (fun _ i _ => s.length - (intOf i).toNat)
  case atStart => exact ⟨0, Nat.zero_le _, rfl, hc, hB⟩
  case round =>
    clear hB hc
    obtain ⟨i, hi, rfl, hc, hB⟩ := hrel
    by_cases hlt : i < s.length
    · obtain ⟨x, hx⟩ : ∃ x, s[i]? = some x := ⟨s[i], by simp [hlt]⟩
      obtain ⟨b, off, rfl, _, _, c0, c1, s0, s1, hxs⟩ := elems_mark h3 hx
      have c0 := hc.cellNever c0
      have c1 := hc.cellNever c1
      have HX := Lib.hid hx
      have hB1 := hB.keep ((Chg.refl Never wr).alloc (.cells #[.int .u8 x.sign, .string x.text] 126)) (fun h => h)
      clear hx
      obtain ⟨sg, tx⟩ := x
      simp only at c0 c1 s0 s1 hxs hB1
      by_cases h32 : sg = 32
      · subst h32
        go_wp2_with (go_at_call 182; refine (changed_any _ _ _).mono ?_; rintro e w2 ⟨rfl, hc2⟩)
        have hB2 := hB1.keep hc2 (fun h => h)
        have hc3 := (hc.alloc _).trans hc2
        go_roundw
        case rel => exact ⟨i + 1, by omega, by go_num, hc3, nearTo_kept HX.out rfl ▸ hB2⟩
        case measure => simp [intOf] <;> omega
      · have t1 : (sg == 32) = false := by simp [h32]
        go_wp2_with (go_at_call 182; refine (changed_any _ _ _).mono ?_; rintro e w2 ⟨rfl, hc2⟩)
        have hB2 := hB1.keep hc2 (fun h => h)
        have hc3 := (hc.alloc _).trans hc2
        have c0' := hc3
        clear hB hB1 hc2 hc
        go_loopw [8] (fun s8 wr' => ∃ c : Int, s8 = .int .i64 c ∧ max 0 ((i : Int) - n) ≤ c ∧ c ≤ max (max 0 ((i : Int) - n)) (min ((s.length : Int) - 1) (i + n) + 1) ∧ Chg Never w wr' ∧ BoolRow w.heap.size wr' s.length (midRow s n i c)) (fun s8 _ => (s.length + 1 - intOf s8).toNat)
        case atStart => exact ⟨_, rfl, Int.le_refl _, by omega, hc3, by have e : midRow s n i (max 0 ((i : Int) - n)) = nearTo s n i := funext (midRow_start HX.out hn); rw [e]; exact hB2⟩
        case round =>
          clear hB2 hc3
          obtain ⟨c, rfl, hlo, hhi, hc, hB⟩ := hrel
          by_cases hcc : c ≤ min ((s.length : Int) - 1) (i + n)
          · obtain ⟨j, rfl⟩ := Int.eq_ofNat_of_zero_le (show 0 ≤ c by omega)
            have hjl : j < s.length := by omega
            have hwin : inWin n i j = true := by unfold inWin; simp; omega
            obtain ⟨y, hy⟩ : ∃ y, s[j]? = some y := ⟨s[j], by simp [hjl]⟩
            obtain ⟨b', off', he, _, _, e0, e1, u0, u1, _⟩ := elems_mark h3 hy
            simp only [Option.some.injEq, Addr.mk.injEq, and_true] at he
            obtain ⟨rfl, rfl⟩ := he
            have e0 := hc.cellNever e0
            have e1 := hc.cellNever e1
            have hnew := nearTo_succ (n := n) (k := j) HX.out
            have hkept : keptAt s j = (y.sign == 32) := by unfold keptAt; rw [hy]; rfl
            rw [hwin, hkept] at hnew
            have d0 := hB.cell hjl
            have d1 := hB.free j
            have hmid : midRow s n i j j = nearTo s n i j := by unfold midRow; simp
            rw [hmid] at d0
            obtain ⟨ys, yt⟩ := y
            simp only at e0 e1 hnew
            have HY := Lib.hid hnew
            have b1 : (j : Int) < s.length := by omega
            clear hnew hkept hmid hy hwin
            cases hnr : nearTo s n i j with
            | true =>
              rw [hnr] at d0
              have HN := Lib.hid hnr
              clear hnr
              go_wp2_with fail
              go_roundw
              case rel => exact ⟨(j : Int) + 1, rfl, by omega, by omega, hc.setCell (.inl (Nat.le_refl _)) _, hB.set hjl _ (fun k hk => by rw [midRow_step, HY.out, HN.out]; simp)⟩
              case measure => simp [intOf] <;> omega
            | false =>
              rw [hnr] at d0
              have HN := Lib.hid hnr
              clear hnr
              by_cases hji : j = i
              · have t2 : ((j : Int) == i) = true := by simp [hji]
                have HJ := Lib.hid hji
                clear hji
                go_wp2_with fail
                go_roundw
                case rel => exact ⟨(j : Int) + 1, rfl, by omega, by omega, hc.setCell (.inl (Nat.le_refl _)) _, hB.set hjl _ (fun k hk => by rw [midRow_step, HY.out, HN.out]; simp [isChange, t1, HJ.out])⟩
                case measure => simp [intOf] <;> omega
              · have t2 : ((j : Int) == i) = false := by simp; omega
                go_wp2_with fail
                refine (kept_any _ _ _).mono ?_
                rintro e w5 ⟨rfl, hc5⟩
                have hB5 := hB.keep hc5 (fun h => h)
                have hc6 := hc.trans hc5
                have d1 := hB5.free j
                have d0 := hB5.cell hjl
                clear hB hc5 hc
                go_wp2_with fail
                go_roundw
                case rel => exact ⟨(j : Int) + 1, rfl, by omega, by omega, hc6.setCell (.inl (Nat.le_refl _)) _, hB5.set hjl _ (fun k hk => by rw [midRow_step, HY.out, HN.out]; simp [isChange, t1, beq_eq_false_iff_ne.2 hji])⟩
                case measure => simp [intOf] <;> omega
          · go_wp2_with fail
            go_roundw
            case rel => exact ⟨i + 1, by omega, by go_num, hc, by
              obtain ⟨cc, q1, q2, q3⟩ := hB
              exact ⟨cc, q1, q2, fun k hk => by rw [q3 k hk, midRow_end HX.out (by omega) hk]⟩⟩
            case measure => simp [intOf] <;> omega
    · go_wp2_with fail
      go_ret
      obtain rfl : i = s.length := by omega
      refine ⟨rfl, hc, ?_⟩
      obtain ⟨c, q1, q2, q3⟩ := hB
      exact ⟨c, q1, q2, fun k hk => by rw [q3 k hk, nearTo_inAt hn hk]⟩
end Go.Proofs.YtjiaidchcldocaaGreatDoor
