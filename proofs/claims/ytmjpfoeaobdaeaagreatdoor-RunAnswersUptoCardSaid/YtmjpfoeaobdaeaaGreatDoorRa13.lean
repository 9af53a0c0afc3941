/-
  PARTS: NUMBERS AS TEXTS, in plain Lean: a text that is the decimal numeral of its number; the document's reading of one.; HUNKS AS TEXTS, in plain Lean: what the program's functions compute, as the walks want it.; THE WALKS of unified.span and Write.; BYTES AS LETTERS, in plain Lean: what is written is read; 57 bytes more ahead are a line more ahead.; MAILS AS TEXTS, in plain Lean (chapter 12): one mail.; BOXES, in plain Lean (chapter 12): one mail behind the other.; PARTS BETWEEN CUTS, in plain Lean: the library's splits are those of the plain laws.; strconv.Atoi WHERE IT FAILS: some number, some error.; strings.Cut's PARTS, in plain Lean.; THE WALKS of unified.number and read.; A READER OF HUNKS IN MEMORY ('RdrAt'): a box of three cells: the hunks that have been read (the last one still grows), how many marks it needs.; THE WALKS of unified.Reader's Open and mark.; THE WALK of unified.Reader's Line.; THE WALKS of patch.whole, shape, one, Check.; THE WALKS of patch.shape, one, Check.
-/
import Derived.Test.YtmjpfoeaobdaeaaGreatDoorRa12
import Derived.Test.YtmjpfoeaobdaeaaGreatDoorRa4
import Derived.StillTailTactics
import Derived.Test.YtmjpfoeaobdaeaaGreatDoorRa1
import Derived.Lib.SplitLaws
import Derived.Lib.IndexMore
import Derived.Test.YtmjpfoeaobdaeaaGreatDoorRa6
import Derived.Test.YtmjpfoeaobdaeaaGreatDoorRa2
import Derived.Test.YtmjpfoeaobdaeaaGreatDoorRa5
import Derived.Deep.RegionHeld3
import Derived.Deep.Cut
import Derived.Test.YtmjpfoeaobdaeaaGreatDoorRa11
import Derived.Test.YtmjpfoeaobdaeaaGreatDoorRa10
import Derived.BigQuiet
set_option linter.unusedVariables false
set_option linter.unusedSimpArgs false
namespace Go.Proofs.YtmjpfoeaobdaeaaGreatDoor

def numM (k : Nat) (s : List UInt8) : Option Nat := if s.length ≤ k then match Lib.decNat s with
  | some n => if Lib.decDigits n = s then some n else none
  | none => none
  else none
theorem dig_char {c : UInt8} {d : Nat} (h : Lib.digitVal c = some d) : d < 10 ∧ UInt8.ofNat (48 + d) = c ∧ c.toNat = 48 + d := by
  unfold Lib.digitVal at h
  by_cases hc : 48 ≤ c.toNat ∧ c.toNat ≤ 57
  · rw [if_pos hc] at h
    injection h with h
    subst h
    refine ⟨by omega, ?_, by omega⟩
    apply UInt8.toNat_inj.1
    rw [UInt8.toNat_ofNat']; omega
  · rw [if_neg hc] at h; cases h
theorem dec_from : ∀ (s : List UInt8) (acc n : Nat), 0 < acc → Lib.decFrom acc s = some n → Lib.decDigits n = Lib.decDigits acc ++ s ∧ 0 < n
  | [], acc, n, ha, h => by
    rw [Lib.decFrom] at h
    injection h with h
    subst h
    exact ⟨by simp, ha⟩
  | c :: r, acc, n, ha, h => by
    rw [Lib.decFrom] at h
    cases hd : Lib.digitVal c with
    | none => rw [hd] at h; cases h
    | some d =>
      rw [hd] at h
      obtain ⟨h1, h2, _⟩ := dig_char hd
      obtain ⟨h3, h4⟩ := dec_from r (acc * 10 + d) n (by omega) h
      refine ⟨?_, h4⟩
      rw [h3, Lib.decDigits, dif_neg (by omega : ¬ acc * 10 + d < 10), show (acc * 10 + d) / 10 = acc by omega, show (acc * 10 + d) % 10 = d by omega, h2]
      simp
theorem dec_head : ∀ (n : Nat), 0 < n → ∀ r, Lib.decDigits n ≠ 48 :: r := fun n => by
  induction n using Nat.strongRecOn with
  | _ n ih =>
    intro hn r h
    rw [Lib.decDigits] at h
    by_cases h10 : n < 10
    · rw [dif_pos h10] at h
      injection h with h _
      have := congrArg UInt8.toNat h
      rw [UInt8.toNat_ofNat'] at this
      have h48 : (48 : UInt8).toNat = 48 := rfl
      omega
    · rw [dif_neg h10] at h
      cases hq : Lib.decDigits (n / 10) with
      | nil =>
        have := Lib.decDigits_length (n / 10)
        rw [hq] at this
        have := Lib.nDigits_pos (n / 10)
        simp at *
        omega
      | cons a b =>
        rw [hq] at h
        injection h with h _
        exact ih (n / 10) (by omega) (by omega) b (by rw [hq, h])
theorem dec_canon {s : List UInt8} {n : Nat} (h : Lib.decNat s = some n) : Lib.decDigits n = s ↔ ¬ (1 < s.length ∧ s.head? = some 48) := by
  unfold Lib.decNat at h
  cases s with
  | nil => cases h
  | cons c r =>
    rw [if_neg (by simp), Lib.decFrom] at h
    cases hd : Lib.digitVal c with
    | none => rw [hd] at h; cases h
    | some d =>
      rw [hd] at h
      simp only [Nat.zero_mul, Nat.zero_add] at h
      obtain ⟨h1, h2, h3⟩ := dig_char hd
      by_cases h0 : d = 0
      · subst h0
        have hc : c = 48 := h2.symm
        subst hc
        constructor
        · rintro e ⟨hl, _⟩
          by_cases hn : 0 < n
          · exact dec_head n hn r e
          · have : n = 0 := by omega
            subst this
            rw [Lib.decDigits_one (by omega)] at e
            have := congrArg List.length e
            simp only [List.length_cons, List.length_nil] at this hl
            omega
        · intro e
          cases r with
          | nil =>
            rw [Lib.decFrom] at h
            injection h with h
            subst h
            rw [Lib.decDigits_one (by omega)]; rfl
          | cons a b => exact absurd ⟨by simp, rfl⟩ e
      · obtain ⟨h4, h5⟩ := dec_from r d n (by omega) h
        have e : Lib.decDigits n = c :: r := by rw [h4, Lib.decDigits_one h1, h2]; rfl
        refine ⟨fun _ ⟨_, q⟩ => ?_, fun _ => e⟩
        injection q with q
        subst q
        have h48 : (48 : UInt8).toNat = 48 := rfl
        omega
theorem num_ref (k : Nat) (s : List UInt8) : numM k s = if s.length < 1 ∨ k < s.length ∨ (1 < s.length ∧ s.head? = some 48) then none else Lib.decFrom 0 s := by
  unfold numM
  by_cases hk : k < s.length
  · rw [if_neg (by omega), if_pos (.inr (.inl hk))]
  · rw [if_pos (by omega)]
    cases s with
    | nil => rw [if_pos (.inl (by simp))]; rfl
    | cons c r =>
      have e : Lib.decNat (c :: r) = Lib.decFrom 0 (c :: r) := rfl
      rw [← e]
      cases hd : Lib.decNat (c :: r) with
      | none =>
        show none = _
        rw [ite_self]
      | some n =>
        have hcan := dec_canon hd
        simp only
        by_cases hc : 1 < (c :: r).length ∧ (c :: r).head? = some 48
        · rw [if_neg (fun q => hcan.1 q hc), if_pos (.inr (.inr hc))]
        · rw [if_pos (hcan.2 hc), if_neg]
          rintro (q | q | q)
          · simp at q
          · exact hk q
          · exact hc q
end Go.Proofs.YtmjpfoeaobdaeaaGreatDoor
namespace Go.Proofs.YtmjpfoeaobdaeaaGreatDoor

end Go.Proofs.YtmjpfoeaobdaeaaGreatDoor
namespace Go.Proofs.YtmjpfoeaobdaeaaGreatDoor
open Go.RowKit

theorem toB_size' (X : List UInt8) : (toB X).size = X.length := by rw [Lib.size_eq, toB_data]
theorem toB_three (a b c : List UInt8) : toB a ++ toB b ++ toB c = toB (a ++ b ++ c) := by
  apply ByteArray.ext
  apply Array.toList_inj.1
  rw [bytes_append, bytes_append, toB_data, toB_data, toB_data, toB_data]
theorem itoa_any (x : Int) (n : Nat) (hx : x = n) (h : n < 100) (w : World) :
    Calls Tryz.prog 44 #[.int .i64 x] w fun e w' => e = .returned (.string (toB (Lib.itoa x))) ∧ w' = w := by
  subst hx
  rw [itoa_nat]
  exact Tryz.strconv_Itoa_small n h w
set_option maxHeartbeats 1000000 in
set_option maxRecDepth 100000 in
theorem span_any (a : Int) (n : Nat) (h0 : 0 ≤ a) (h1 : a < 99) (hn : n < 100) (w : World) :
    Calls Tryz.prog 134 #[.int .i64 a, .int .i64 n] w fun e w' => e = .returned (.string (toB (spanL a n))) ∧ w' = w := by
  have hs2 : (toB (Lib.itoa (n : Int))).size ≤ 20 := by
    rw [toB_size', itoa_nat]
    have := dec_len (n := n) (by omega)
    omega
  by_cases hp : 0 < n
  · have HE : Hid (spanL a n = Lib.itoa (a + 1) ++ [44] ++ Lib.itoa n) := by unfold Hid spanL; rw [if_pos hp]
    have t1 : decide ((0 : Int) < (n : Int)) = true := decide_eq_true (by omega)
    have t1n : decide (0 < n) = true := decide_eq_true hp
    have F1 : ∀ wx, Calls Tryz.prog 44 #[.int .i64 (a + 1)] wx fun e w' => e = .returned (.string (toB (Lib.itoa (a + 1)))) ∧ w' = wx := fun wx => itoa_any (a + 1) (a + 1).toNat (by omega) (by omega) wx
    have hs1 : (toB (Lib.itoa (a + 1))).size ≤ 20 := by
      obtain ⟨k, hk⟩ : ∃ k : Nat, a + 1 = k := ⟨(a + 1).toNat, by omega⟩
      rw [toB_size', hk, itoa_nat]
      have := dec_len (n := k) (by omega)
      omega
    clear hp
    go_enter Tryz.func134, Tryz.ntmps134
    go_wp2_with fail
    refine (F1 _).mono ?_
    rintro e w1 ⟨rfl, rfl⟩
    go_wp2_with fail
    refine (itoa_any n n rfl hn _).mono ?_
    rintro e w1 ⟨rfl, rfl⟩
    go_wp2_with fail
    go_ret
    exact ⟨by rw [HE.out]; exact congrArg (fun x => Ending.returned (Value.string x)) (toB_three _ _ _), rfl⟩
  · obtain rfl : n = 0 := by omega
    have HE : Hid (spanL a 0 = Lib.itoa a ++ [44] ++ Lib.itoa 0) := by unfold Hid spanL; rw [if_neg hp]; rfl
    have F1 : ∀ wx, Calls Tryz.prog 44 #[.int .i64 a] wx fun e w' => e = .returned (.string (toB (Lib.itoa a))) ∧ w' = wx := fun wx => itoa_any a a.toNat (by omega) (by omega) wx
    have F2 : ∀ wx, Calls Tryz.prog 44 #[.int .i64 0] wx fun e w' => e = .returned (.string (toB (Lib.itoa 0))) ∧ w' = wx := fun wx => itoa_any 0 0 rfl (by omega) wx
    have hs1 : (toB (Lib.itoa a)).size ≤ 20 := by
      obtain ⟨k, hk⟩ : ∃ k : Nat, a = k := ⟨a.toNat, by omega⟩
      rw [toB_size', hk, itoa_nat]
      have := dec_len (n := k) (by omega)
      omega
    have hs2 : (toB (Lib.itoa 0)).size ≤ 20 := hs2
    clear hp
    go_enter Tryz.func134, Tryz.ntmps134
    go_wp2_with fail
    refine (F1 _).mono ?_
    rintro e w1 ⟨rfl, rfl⟩
    go_wp2_with fail
    refine (F2 _).mono ?_
    rintro e w1 ⟨rfl, rfl⟩
    go_wp2_with fail
    go_ret
    exact ⟨by rw [HE.out]; exact congrArg (fun x => Ending.returned (Value.string x)) (toB_three _ _ _), rfl⟩

theorem chg_below {B : Nat} {w w' : World} (h : Below B w w') : Chg (From B) w w' :=
  ⟨h.os, h.tape, h.output, h.size, fun k hk hn => h.block k (by unfold From at hn; omega)⟩
theorem hunkR_head (h : Hunk) : textL (hunkL h) = headL h.old (oldN h.marks) h.new (newN h.marks) ++ [10] ++ textL (h.marks.map markL) := rfl
theorem textU_take {l : List Hunk} {k : Nat} {x : Hunk} (hx : l[k]? = some x) : textU (l.take (k + 1)) = textU (l.take k) ++ textL (hunkL x) := by
  unfold textU linesU
  rw [List.take_add_one, hx, Option.toList_some, List.flatMap_append, textL_app]
  simp
theorem textM_take {l : List Mark} {k : Nat} {x : Mark} (hx : l[k]? = some x) : textL ((l.take (k + 1)).map markL) = textL ((l.take k).map markL) ++ (signOf x :: (x.text.data.toList ++ [10])) := by
  rw [List.take_add_one, hx, Option.toList_some, List.map_append, textL_app]
  simp [textL, markL]
def EachH (x : Hunk) : Prop := scriptFault x.marks = 0 ∧ 0 ≤ x.old ∧ x.old ≤ 60 ∧ 0 ≤ x.new ∧ x.new ≤ 60 ∧ oldN x.marks ≤ 60 ∧ newN x.marks ≤ 60
theorem one_scr {h : Hunk} {fin more : Int} (e : oneFault h fin more = 0) : scriptFault h.marks = 0 := by
  unfold oneFault at e
  by_cases h1 : scriptFault h.marks ≠ 0
  · rw [if_pos h1] at e; exact absurd e h1
  · simpa using h1
theorem go_each : ∀ (l : List Hunk) (i : Nat) (fin more : Int), (hunksGo i fin more l).2 = 0 → ∀ x ∈ l, EachH x
  | [], _, _, _, _ => fun _ h => by cases h
  | h :: l, i, fin, more, e => by
    rw [hunksGo] at e
    by_cases h0 : oneFault h fin more = 0
    · rw [if_pos h0] at e
      obtain ⟨q1, q2, q3, q4, q5, q6, q7⟩ := one_ok h0
      intro x hx
      rcases List.mem_cons.1 hx with rfl | hx
      · exact ⟨one_scr h0, q2, by omega, q3, by omega, by omega, by omega⟩
      · exact go_each l _ _ _ e x hx
    · rw [if_neg h0] at e
      exact absurd e h0
theorem hunks_each {l : List Hunk} (h : (hunksFault l).2 = 0) : ∀ x ∈ l, EachH x := by
  unfold hunksFault at h
  by_cases hl : 60 < l.length
  · rw [if_pos hl] at h; cases h
  · rw [if_neg hl] at h
    exact go_each l _ _ _ h
theorem textU_mono {l : List Hunk} {k : Nat} : (textU (l.take k)).length ≤ (textU l).length := by
  conv => rhs; rw [← List.take_append_drop k l]
  unfold textU linesU
  rw [List.flatMap_append, textL_app, List.length_append]
  omega
theorem cells_toB (x : List UInt8) : Lib.strCells (toB x) = Lib.byteCells x := by rw [Lib.strCells_eq, toB_data]
theorem head_row (a b : Int) (x y : Nat) : toB [64, 64, 32, 45] ++ toB (spanL a x) ++ toB [32, 43] ++ toB (spanL b y) ++ toB [32, 64, 64, 10] = toB (headL a x b y ++ [10]) := by
  apply ByteArray.ext
  apply Array.toList_inj.1
  simp only [bytes_append, toB_data]
  unfold headL atAt endAt
  simp
theorem mark_cells {m : Mark} (h : SignOk m) : [.int .u8 m.sign] ++ Lib.strCells (m.text ++ toB [10]) = Lib.byteCells (signOf m :: (m.text.data.toList ++ [10])) := by
  rw [Lib.strCells_eq, bytes_append, toB_data]
  unfold signOf
  rcases h with e | e | e <;> rw [e] <;> rfl
theorem marks_take_len {ms : List Mark} {q : Nat} (h : ∀ m ∈ ms, markFault m = 0) (hl : ms.length ≤ 120) : (textL ((ms.take q).map markL)).length ≤ 82 * 120 := by
  have : ∀ (k : List Mark), (∀ m ∈ k, markFault m = 0) → (textL (k.map markL)).length ≤ 82 * k.length := fun k hk => by
    induction k with
    | nil => simp [textL]
    | cons m k ih =>
      obtain ⟨-, -, q3⟩ := mark_ok (hk m (List.mem_cons_self ..))
      have := ih fun x hx => hk x (List.mem_cons_of_mem _ hx)
      have e : (textL ((m :: k).map markL)).length = m.text.size + 2 + (textL (k.map markL)).length := by
        show (markL m ++ [10] ++ textL (k.map markL)).length = _
        unfold markL
        simp only [List.length_append, List.length_cons, List.length_nil, Array.length_toList, ByteArray.size_data]
      rw [e, List.length_cons]; omega
  have h1 := this (ms.take q) (fun m hm => h m (List.mem_of_mem_take hm))
  rw [List.length_take] at h1
  omega
set_option maxHeartbeats 1000000 in
set_option maxRecDepth 100000 in
theorem write_any (B b : Nat) (bs : List Value) (l : List Hunk) (v : Value) (w : World) (h : Rdv w (From B) v l) (hI : IsB B b bs w) (hz : (hunksFault l).2 = 0) (hlen : bs.length ≤ 1000000000) (hBw : B ≤ w.heap.size) :
    Calls Tryz.prog 111 #[.pointer (some ⟨b, 0, none⟩), v] w fun e w' => e = .returned (.tuple #[]) ∧ IsB B b (bs ++ Lib.byteCells (textU l)) w' ∧ Below B w w' := by
  obtain ⟨a, cap, rfl, h1, h2, h3⟩ := rdv_slice h
  unfold maxLen at h2
  have hTL := Lib.hid (hunks_ok hz).2.2
  have hH := Lib.hid (hunks_each hz)
  clear hz
  go_enter Tryz.func111, Tryz.ntmps111
  go_wp2_with fail
  go_loopw [12] (fun i wr => ∃ k : Nat, k ≤ l.length ∧ i = .int .i64 k ∧ IsB B b (bs ++ Lib.byteCells (textU (l.take k))) wr ∧ Below B w wr) (fun i _ => l.length - (intOf i).toNat)
  case atStart => exact ⟨0, Nat.zero_le _, rfl, by simpa [textU, textL, linesU, Lib.byteCells] using hI, Below.refl _ _⟩
  case round =>
    clear hI
    obtain ⟨k, hk, rfl, hI, hb⟩ := hrel
    rename World => wr
    have hbs := hb.size
    by_cases hlt : k < l.length
    · obtain ⟨x, hx⟩ : ∃ x, l[k]? = some x := ⟨l[k], by simp [hlt]⟩
      obtain ⟨b', off, mv, rfl, hnb, -, c0, c1, c2, hmv⟩ := elems_hunk h3 hx
      have hcb := chg_below hb
      have hbne : wr.heap.size ≠ b := by
        have : b < wr.heap.size := hI.elim (fun q => q.lt) (fun q => q.lt)
        omega
      obtain ⟨e1, e2, e3, e4, e5, e6, e7⟩ := hH.out x (List.mem_of_getElem? hx)
      have E1 := Lib.hid e1
      have hml := scriptFault_len e1
      have HT := Lib.hid (textU_take hx)
      have hTk := @textU_mono l k
      have hTk1 := @textU_mono l (k + 1)
      have hTLo := hTL.out
      obtain ⟨ma, mc, rfl, -, -, hme⟩ := rdv_slice hmv
      have c0 := hcb.cell c0 hnb
      have c1 := hcb.cell c1 hnb
      have c2 := hcb.cell c2 hnb
      have hmr : Rdv wr (From B) (.slice ma x.marks.length mc) x.marks := hmv.keep hcb (fun _ _ h => h) (fun _ _ h => h)
      have hA : Chg Never wr (wr.alloc (.cells #[.int .i64 x.old, .int .i64 x.new, .slice ma x.marks.length mc] 146)) := (Chg.refl Never wr).alloc _
      have hbox := Blk3.new wr 146 (.int .i64 x.old) (.int .i64 x.new) (.slice ma x.marks.length mc)
      obtain ⟨g0, g1, g2⟩ := hbox.cell
      have hIA := bld_keep hI hA
      have hmA := hmr.never hA
      have hbA : Below B w (wr.alloc (.cells #[.int .i64 x.old, .int .i64 x.new, .slice ma x.marks.length mc] 146)) := hb.alloc (by omega) _
      clear hx h3 h hI hmr hmv e1
      go_wp2_with fail
      clear c0 c1 c2
      generalize wr.alloc (.cells #[.int .i64 x.old, .int .i64 x.new, .slice ma x.marks.length mc] 146) = wA at hA hbox g0 g1 g2 hIA hmA hbA ⊢
      refine (size_any x _ _ (hmA.sub (fun _ _ h => h.elim))).mono ?_
      rintro e w2 ⟨rfl, hc2⟩
      have g0 := hc2.cellNever g0
      have g1 := hc2.cellNever g1
      have g2 := hc2.cellNever g2
      have hI2 := bld_keep hIA hc2
      have hm2 := hmA.never hc2
      have hb2 := hbA.trans (hc2.never.mono (Nat.le_trans hBw hbA.size))
      have hwsz := hb2.size
      have hl1 : (spanL x.old (oldN x.marks)).length ≤ 7 := span_len e2 (by omega) (by omega)
      have hl2 : (spanL x.new (newN x.marks)).length ≤ 7 := span_len e4 (by omega) (by omega)
      have FS1 : ∀ wx, Calls Tryz.prog 134 #[.int .i64 x.old, .int .i64 (oldN x.marks : Nat)] wx fun e w' => e = .returned (.string (toB (spanL x.old (oldN x.marks)))) ∧ w' = wx := fun wx => span_any _ _ e2 (by omega) (by omega) wx
      have FS2 : ∀ wx, Calls Tryz.prog 134 #[.int .i64 x.new, .int .i64 (newN x.marks : Nat)] wx fun e w' => e = .returned (.string (toB (spanL x.new (newN x.marks)))) ∧ w' = wx := fun wx => span_any _ _ e4 (by omega) (by omega) wx
      have HR := Lib.hid (head_row x.old x.new (oldN x.marks) (newN x.marks))
      have HUL := Lib.hid (hunkR_head x)
      obtain ⟨S1, hS1⟩ : ∃ S1, toB (spanL x.old (oldN x.marks)) = S1 := ⟨_, rfl⟩
      obtain ⟨S2, hS2⟩ : ∃ S2, toB (spanL x.new (newN x.marks)) = S2 := ⟨_, rfl⟩
      obtain ⟨HD, hHD⟩ : ∃ HD, headL x.old (oldN x.marks) x.new (newN x.marks) ++ [10] = HD := ⟨_, rfl⟩
      have hz1 : S1.size ≤ 7 := by rw [← hS1, toB_size']; exact hl1
      have hz2 : S2.size ≤ 7 := by rw [← hS2, toB_size']; exact hl2
      have hbl : (bs ++ Lib.byteCells (textU (l.take k))).length ≤ 1000400000 := by rw [List.length_append, Lib.byteCells_length]; omega
      rw [hS1, hS2, hHD] at HR
      rw [hHD] at HUL
      rw [hS1] at FS1
      rw [hS2] at FS2
      obtain ⟨bs1, hbs1⟩ : ∃ bs1, bs ++ Lib.byteCells (textU (l.take k)) = bs1 := ⟨_, rfl⟩
      rw [hbs1] at hI2 hbl
      have HB1 := Lib.hid hbs1
      clear hbs1
      clear hS1 hS2 hl1 hl2 hIA hmA hbA hA hb hH hTL hTk hTk1
      go_wp2_with fail
      have n1 : ¬ (9223372036854775807 < 4 + S1.size) := by omega
      have n2 : ¬ (9223372036854775807 < 4 + S1.size + 2) := by omega
      have n3 : ¬ (9223372036854775807 < 4 + S1.size + 2 + S2.size) := by omega
      have n4 : ¬ (9223372036854775807 < 4 + S1.size + 2 + S2.size + 4) := by omega
      refine wp_region_still_tail 13 (by kernel_rfl) (by kernel_rfl) ?_
      simp only [List.take_succ_cons, List.take_zero, List.drop_succ_cons, List.drop_zero]
      change wpStill _ _ w2.drew _ _ _
      still_step
      still_step
      still_step
      still_step
      refine wpStill_step (fun K hK => ?_)
      go_simp
      refine ⟨.string S1, FS1 _, ?_⟩
      refine hK _ ?_
      clear hK K
      still_step
      still_step
      still_step
      still_step
      still_step
      refine wpStill_step (fun K hK => ?_)
      go_simp
      refine ⟨.string S2, FS2 _, ?_⟩
      refine hK _ ?_
      clear hK K
      still_step
      still_step
      refine wpStill_nil ?_
      change wpList _ _ _ _ _ w2.drew
      have hbox2 := hbox.keep hc2 (fun h => h)
      have hcd : Chg Never w2 w2.drew := (Chg.refl Never w2).drew
      have hbox3 := hbox2.keep hcd (fun h => h)
      have hI3 := bld_keep hI2 hcd
      have hm3 := hm2.never hcd
      have hb3 := hb2.trans (hcd.never.mono (Nat.le_trans hBw hb2.size))
      have hw3s : B ≤ w2.drew.heap.size := Nat.le_trans hBw hb3.size
      have hHl : HD.length ≤ 24 := by
        have := head_len ⟨e2, by omega, e4, by omega, by omega, by omega, fun m hm => (mark_ok (marks_ok E1.out m hm)).1⟩
        rw [← hHD, List.length_append]; simp; omega
      generalize w2.drew = w3 at hI3 hm3 hb3 hw3s hbox3
      clear hcd hI2 hm2 hb2 g0 g1 g2 hHD n1 n2 n3 n4 FS1 FS2 hbox hbox2 hc2 hwsz
      go_wp2_with fail
      refine (bldk_string B b bs1 _ _ hI3 (by rw [ByteArray.size_append, ByteArray.size_append, ByteArray.size_append, ByteArray.size_append]; show _ + (4 + S1.size + 2 + S2.size + 4) ≤ _; omega) hw3s).mono ?_
      rintro e w4 ⟨rfl, hI4, b4, k4⟩
      have hI4 : BAt B b (bs1 ++ Lib.byteCells HD) w4 := by rw [← cells_toB, ← HR.out]; exact hI4
      have hb4 := hb3.trans b4
      have hc4 := chg_below b4
      have hm4 : Rdv w4 (From B) (.slice ma x.marks.length mc) x.marks := hm3.keep hc4 (fun _ _ h => h) (fun _ _ h => h)
      obtain ⟨-, -, g2⟩ := (k4.blk3 hbox3 hbne (by decide)).cell
      have hbl2 : (bs1 ++ Lib.byteCells HD).length ≤ 1000500000 := by rw [List.length_append, Lib.byteCells_length]; omega
      obtain ⟨bs2, hbs2⟩ : ∃ bs2, bs1 ++ Lib.byteCells HD = bs2 := ⟨_, rfl⟩
      rw [hbs2] at hI4 hbl2
      have HB2 := Lib.hid hbs2
      clear hI3 hm3 hb3 b4 hc4 HR hbs2 hz1 hz2 k4 hbox3
      have hme4 := (rdv_slice hm4)
      obtain ⟨ma', mc', hq, -, -, hme⟩ := hme4
      injection hq with hq1 _ hq2
      subst hq1 hq2
      have hMK := Lib.hid (marks_ok E1.out)
      have hw4s := Nat.le_trans hBw hb4.size
      have hst0 : bs2 ++ Lib.byteCells (textL ((x.marks.take 0).map markL)) = bs2 := by simp [textL, Lib.byteCells]
      unfold maxLen at *
      go_wp2_with fail
      clear g2
      go_loopw [38] (fun i wi => ∃ q : Nat, q ≤ x.marks.length ∧ i = .int .i64 q ∧ IsB B b (bs2 ++ Lib.byteCells (textL ((x.marks.take q).map markL))) wi ∧ Below B w4 wi) (fun i _ => x.marks.length - (intOf i).toNat)
      case atStart => exact ⟨0, Nat.zero_le _, rfl, by rw [hst0]; exact .inr hI4, Below.refl _ _⟩
      case round =>
        clear hI4
        obtain ⟨q, hq, rfl, hJ, hbi⟩ := hrel
        rename World => wi
        by_cases hql : q < x.marks.length
        · obtain ⟨y, hy⟩ : ∃ y, x.marks[q]? = some y := ⟨x.marks[q], by simp [hql]⟩
          obtain ⟨yb, yoff, rfl, hynb, -, d0, d1, s0, s1, hys⟩ := elems_mark hme hy
          have hci := chg_below hbi
          have d0 := hci.cell d0 hynb
          have d1 := hci.cell d1 hynb
          obtain ⟨m1, m2, m3⟩ := mark_ok (hMK.out y (List.mem_of_getElem? hy))
          have HMT := Lib.hid (textM_take hy)
          have hA : Chg Never wi (wi.alloc (.cells #[.int .u8 y.sign, .string y.text] 148)) := (Chg.refl Never wi).alloc _
          have hbx := Blk2.new wi 148 (.int .u8 y.sign) (.string y.text)
          have hbn : wi.heap.size ≠ b := by
            have : b < wi.heap.size := hJ.elim (fun q => q.lt) (fun q => q.lt)
            omega
          obtain ⟨f0, f1⟩ := hbx.cell
          have hJA := bld_keep hJ hA
          have hbA := hbi.trans (hA.never.mono (Nat.le_trans hw4s hbi.size))
          have hsA := Nat.le_trans hw4s hbA.size
          have hmt : (textL ((x.marks.take q).map markL)).length ≤ 82 * 120 := marks_take_len hMK.out hml
          have hbl3 : (bs2 ++ Lib.byteCells (textL ((x.marks.take q).map markL))).length ≤ 1000600000 := by rw [List.length_append, Lib.byteCells_length]; omega
          have HJ2 : Hid (bs2 ++ Lib.byteCells (textL ((x.marks.take q).map markL)) ++ [.int .u8 y.sign] ++ Lib.strCells (y.text ++ toB [10]) = bs2 ++ Lib.byteCells (textL ((x.marks.take (q + 1)).map markL))) := by
            rw [Hid, HMT.out, Lib.byteCells_append, List.append_assoc, List.append_assoc, mark_cells m1]
          generalize bs2 ++ Lib.byteCells (textL ((x.marks.take q).map markL)) = bs3 at hJA hbl3 HJ2
          clear hy hJ hmt
          go_wp2_with fail
          clear d0 d1
          refine (bldk_byte1 B b bs3 y.sign _ hJA (by omega) hsA).mono ?_
          rintro e w5 ⟨rfl, hJ5, b5, k5⟩
          obtain ⟨f0, f1⟩ := (k5.blk2 hbx hbn (by decide)).cell
          have hb5 := hbA.trans b5
          clear hJA hbx b5 k5 hA
          go_wp2_with fail
          refine (bldk_string B b _ _ _ (.inr hJ5) (by rw [List.length_append, ByteArray.size_append]; show bs3.length + 1 + (y.text.size + 1) ≤ _; omega) (Nat.le_trans hw4s hb5.size)).mono ?_
          rintro e w6 ⟨rfl, hJ6, b6, -⟩
          go_wp2_with fail
          go_roundw
          case rel => exact ⟨q + 1, by omega, by go_num, .inr (by rw [← HJ2.out]; exact hJ6), hb5.trans b6⟩
          case measure => simp [intOf]; omega
        · rw [List.take_of_length_le (by omega)] at hJ
          have hfin : IsB B b (bs ++ Lib.byteCells (textU (l.take (k + 1)))) wi := by
            rw [HT.out, Lib.byteCells_append, ← List.append_assoc, HB1.out, HUL.out, Lib.byteCells_append, ← List.append_assoc, HB2.out]
            exact hJ
          have hbf := hb4.trans hbi
          clear hJ hbi hme hMK
          go_wp2_with fail
          go_roundw
          case rel => exact ⟨k + 1, by omega, by go_num, hfin, hbf⟩
          case measure => simp [intOf]; omega
    · rw [List.take_of_length_le (by omega)] at hI
      go_wp2_with fail
      go_end0
      exact ⟨rfl, hI, hb⟩
end Go.Proofs.YtmjpfoeaobdaeaaGreatDoor
namespace Go.Proofs.YtmjpfoeaobdaeaaGreatDoor

def letters : List UInt8 := [65, 66, 67, 68, 69, 70, 71, 72, 73, 74, 75, 76, 77, 78, 79, 80, 81, 82, 83, 84, 85, 86, 87, 88, 89, 90, 97, 98, 99, 100, 101, 102, 103, 104, 105, 106, 107, 108, 109, 110, 111, 112, 113, 114, 115, 116, 117, 118, 119, 120, 121, 122, 48, 49, 50, 51, 52, 53, 54, 55, 56, 57, 43, 47]
end Go.Proofs.YtmjpfoeaobdaeaaGreatDoor
namespace Go.Proofs.YtmjpfoeaobdaeaaGreatDoor

end Go.Proofs.YtmjpfoeaobdaeaaGreatDoor
namespace Go.Proofs.YtmjpfoeaobdaeaaGreatDoor

end Go.Proofs.YtmjpfoeaobdaeaaGreatDoor
namespace Go.Proofs.YtmjpfoeaobdaeaaGreatDoor

theorem cut_index {t : List UInt8} (ht : t ≠ []) : ∀ (s : List UInt8), match cutSub t s with
    | none => Lib.index s t = -1
    | some p => Lib.index s t = (p.1.length : Int) ∧ p.1 = s.take p.1.length ∧ p.2 = s.drop (p.1.length + t.length)
  | [] => by
    rw [cutSub, if_neg ht]
    show Lib.index [] t = -1
    unfold Lib.index
    rw [if_neg (by simpa using ht)]
  | c :: r => by
    have ih := cut_index ht r
    rw [cutSub]
    by_cases hp : t.isPrefixOf (c :: r) = true
    · rw [if_pos hp]
      refine ⟨?_, rfl, by simp⟩
      unfold Lib.index
      rw [if_pos hp]; rfl
    · rw [if_neg hp]
      cases hc : cutSub t r with
      | none =>
        rw [hc] at ih
        show Lib.index (c :: r) t = -1
        unfold Lib.index
        rw [if_neg hp, ih]; rfl
      | some p =>
        rw [hc] at ih
        obtain ⟨h1, h2, h3⟩ := ih
        show Lib.index (c :: r) t = ((c :: p.1).length : Int) ∧ c :: p.1 = (c :: r).take (c :: p.1).length ∧ p.2 = (c :: r).drop ((c :: p.1).length + t.length)
        refine ⟨?_, ?_, ?_⟩
        · unfold Lib.index
          rw [if_neg hp, h1, if_neg (by simp), List.length_cons]; omega
        · rw [List.length_cons, List.take_succ_cons, ← h2]
        · rw [List.length_cons, show p.1.length + 1 + t.length = p.1.length + t.length + 1 by omega, List.drop_succ_cons]; exact h3
def cutsK (t : List UInt8) : Nat → List UInt8 → List (List UInt8)
  | 0, s => [s]
  | k + 1, s => match cutSub t s with
    | none => [s]
    | some (a, b) => a :: cutsK t k b
theorem splitK_cuts {t : List UInt8} (ht : t ≠ []) : ∀ (k : Nat) (s : List UInt8), Lib.splitK t 0 k s = cutsK t k s
  | 0, s => rfl
  | k + 1, s => by
    have h := cut_index ht s
    rw [Lib.splitK, cutsK]
    cases hc : cutSub t s with
    | none =>
      rw [hc] at h
      rw [if_pos (by rw [h]; rfl)]
    | some p =>
      rw [hc] at h
      obtain ⟨h1, h2, h3⟩ := h
      rw [if_neg (by rw [h1]; simp), h1]
      simp only [Int.toNat_natCast, Nat.add_zero]
      rw [← h2, ← h3, splitK_cuts ht k p.2]
theorem cut_shorter {t s : List UInt8} {p : List UInt8 × List UInt8} (ht : t ≠ []) (h : cutSub t s = some p) : p.2.length < s.length := by
  have := cut_some (a := p.1) (b := p.2) h
  have hl := congrArg List.length this
  simp only [List.length_append] at hl
  have := List.length_pos_iff.2 ht
  omega
theorem cuts_enough {t : List UInt8} (ht : t ≠ []) : ∀ (n k j : Nat) (s : List UInt8), s.length ≤ n → Lib.count s t ≤ k → Lib.count s t ≤ j → cutsK t k s = cutsK t j s
  | n, k, j, s, hn, hk, hj => by
    have h := cut_index ht s
    cases hc : cutSub t s with
    | none =>
      match k, j with
      | 0, 0 => rfl
      | 0, j + 1 => rw [cutsK, cutsK, hc]
      | k + 1, 0 => rw [cutsK, cutsK, hc]
      | k + 1, j + 1 => rw [cutsK, cutsK, hc]
    | some p =>
      rw [hc] at h
      obtain ⟨h1, h2, h3⟩ := h
      have hcnt := Lib.count_hit ht h1
      rw [← h3] at hcnt
      have hsh := cut_shorter ht hc
      match n, k, j, hn, hk, hj with
      | 0, _, _, hn, _, _ => omega
      | n + 1, 0, _, _, hk, _ => omega
      | n + 1, k + 1, 0, _, _, hj => omega
      | n + 1, k + 1, j + 1, hn, hk, hj =>
        rw [cutsK, cutsK, hc]
        simp only
        rw [cuts_enough ht n k j p.2 (by omega) (by omega) (by omega)]
theorem count_len {t : List UInt8} (ht : t ≠ []) : ∀ (n : Nat) (s : List UInt8), s.length ≤ n → Lib.count s t ≤ s.length
  | n, s, hn => by
    have h := cut_index ht s
    cases hc : cutSub t s with
    | none => rw [hc] at h; rw [Lib.count_miss h]; exact Nat.zero_le _
    | some p =>
      rw [hc] at h
      obtain ⟨h1, h2, h3⟩ := h
      have hcnt := Lib.count_hit ht h1
      rw [← h3] at hcnt
      have hsh := cut_shorter ht hc
      match n, hn with
      | 0, hn => omega
      | n + 1, hn =>
        have := count_len ht n p.2 (by omega)
        omega
end Go.Proofs.YtmjpfoeaobdaeaaGreatDoor
namespace Go.Proofs.YtmjpfoeaobdaeaaGreatDoor
open Go.RowKit

def AtoiBad (w : World) (e : Ending) (w' : World) : Prop := ∃ (x : Int) (T : TypeId) (p : Value), I64 x ∧ e = .returned (.tuple #[.int .i64 x, .iface T p]) ∧ Chg Never w w'
theorem atoi_bad (s : ByteArray) (hs : s.size ≤ 1000000000) (h : ∀ v, Lib.atoiAll s.data.toList ≠ .ok v) (w : World) (m : Int) (hg : Globs w m) :
    Calls Tryz.prog 77 #[.string s] w (AtoiBad w) := by
  obtain ⟨e1, h3, h4⟩ := hg.es
  obtain ⟨e2, h5, h6⟩ := hg.er
  cases hx : Lib.atoiAll s.data.toList with
  | ok v => exact absurd hx (h v)
  | range =>
    refine (Tryz.strconv_Atoi_range s (by omega) hx e2 w h5 h6).mono ?_
    rintro e w' ⟨N, rfl, _, _, hb⟩
    obtain ⟨b0, b1⟩ := Lib.atoiSat_bounds s.data.toList
    exact ⟨_, _, _, ⟨by omega, by omega⟩, rfl, Chg.of_below hb⟩
  | _ =>
    refine (Any.strconv_Atoi_syntax Tryz.laysC172 s (by omega) hx e1 w h3 h4).mono ?_
    rintro e w' ⟨N, rfl, _, _, hb⟩
    exact ⟨_, _, _, ⟨by omega, by omega⟩, rfl, Chg.of_below hb⟩
end Go.Proofs.YtmjpfoeaobdaeaaGreatDoor
namespace Go.Proofs.YtmjpfoeaobdaeaaGreatDoor

def cutA (t s : List UInt8) : List UInt8 := match cutSub t s with
  | none => s
  | some p => p.1
def cutB (t s : List UInt8) : List UInt8 := match cutSub t s with
  | none => []
  | some p => p.2
theorem lib_cut {t s : List UInt8} (ht : t ≠ []) : Lib.cut s t = (cutA t s, cutB t s, (cutSub t s).isSome) := by
  have h := cut_index ht s
  unfold Lib.cut cutA cutB
  cases hc : cutSub t s with
  | none =>
    rw [hc] at h
    simp only at h ⊢
    simp [h]
  | some p =>
    rw [hc] at h
    obtain ⟨h1, h2, h3⟩ := h
    simp only
    rw [h1]
    simp [← h2, ← h3]
theorem cutA_len (t s : List UInt8) : (cutA t s).length ≤ s.length := by
  unfold cutA
  cases hc : cutSub t s with
  | none => exact Nat.le_refl _
  | some p => have := congrArg List.length (cut_some (a := p.1) (b := p.2) hc); simp only [List.length_append] at this; simp only; omega
end Go.Proofs.YtmjpfoeaobdaeaaGreatDoor
namespace Go.Proofs.YtmjpfoeaobdaeaaGreatDoor
open Go.RowKit
end Go.Proofs.YtmjpfoeaobdaeaaGreatDoor
namespace Go.Proofs.YtmjpfoeaobdaeaaGreatDoor
open Go.RowKit
end Go.Proofs.YtmjpfoeaobdaeaaGreatDoor
namespace Go.Proofs.YtmjpfoeaobdaeaaGreatDoor
open Go.RowKit
end Go.Proofs.YtmjpfoeaobdaeaaGreatDoor
namespace Go.Proofs.YtmjpfoeaobdaeaaGreatDoor
open Go.RowKit

end Go.Proofs.YtmjpfoeaobdaeaaGreatDoor
namespace Go.Proofs.YtmjpfoeaobdaeaaGreatDoor
open Go.RowKit

theorem other_any (sg s : Int) (tx : ByteArray) (p : Addr) (w : World) (h : w.cell? p = some (.int .u8 s)) :
    Calls Tryz.prog 177 #[.agg #[.int .u8 sg, .string tx], .pointer (some p)] w fun e w' => e = .returned (.bool (sg != s)) ∧ Chg Never w w' := by
  have h := ((Chg.refl Never w).alloc (.cells #[.int .u8 sg, .string tx] 148)).cellNever h
  go_enter Tryz.func177, Tryz.ntmps177
  go_wp2_with fail
  go_ret
  exact ⟨rfl, (Chg.refl _ _).alloc _⟩
def allSign (l : List Mark) (s : Int) : Bool := l.all fun m => decide (m.sign = s)
theorem allSign_take {l : List Mark} {k : Nat} {x : Mark} {s : Int} (hx : l[k]? = some x) (h : allSign (l.take k) s = true) : allSign (l.take (k + 1)) s = decide (x.sign = s) := by
  rw [List.take_add_one, hx]
  unfold allSign at *
  rw [List.all_append, h]
  simp
theorem allSign_bad {l : List Mark} {k : Nat} {x : Mark} {s : Int} (hx : l[k]? = some x) (h : x.sign ≠ s) : allSign l s = false := by
  unfold allSign
  rw [List.all_eq_false]
  exact ⟨x, List.mem_of_getElem? hx, by simp [h]⟩
def OthPost (l : List Mark) (s : Int) (w : World) (e : Ending) (w' : World) : Prop := ∃ n : Int, e = .returned (.int .i64 n) ∧ -1 ≤ n ∧ decide (0 ≤ n) = !(allSign l s) ∧ Chg Never w w'
set_option maxHeartbeats 1000000 in
set_option maxRecDepth 100000 in
theorem index_other (l : List Mark) (s : Int) (v : Value) (p : Addr) (w : World) (h : Rdv w Never v l) (hp : w.cell? p = some (.int .u8 s)) :
    Calls Tryz.prog 179 #[v, .func (.func 177) #[] #[.pointer (some p)]] w (OthPost l s w) := by
  obtain ⟨a, cap, rfl, h1, h2, h3⟩ := rdv_slice h
  unfold maxLen at h2
  go_enter Tryz.func179, Tryz.ntmps179
  go_wp2_with fail
  go_loopw [8] (fun i wr => ∃ k : Nat, k ≤ l.length ∧ i = .int .i64 k ∧ Hid (allSign (l.take k) s = true) ∧ Chg Never w wr) (fun i _ => l.length - (intOf i).toNat)
  case atStart => exact ⟨0, Nat.zero_le _, rfl, rfl, Chg.refl _ _⟩
  case round =>
    obtain ⟨k, hk, rfl, hf, hc⟩ := hrel
    by_cases hlt : k < l.length
    · obtain ⟨x, hx⟩ : ∃ x, l[k]? = some x := ⟨l[k], by simp [hlt]⟩
      obtain ⟨b, off, rfl, _, _, c0, c1, s0, s1, hxs⟩ := elems_mark h3 hx
      have c0 := hc.cellNever c0
      have c1 := hc.cellNever c1
      have HT := Lib.hid (allSign_take hx hf.out)
      have HB : ∀ _ : x.sign ≠ s, Hid (allSign l s = false) := fun e => allSign_bad hx e
      clear hx h3 h
      obtain ⟨sg, tx⟩ := x
      simp only at c0 c1 s0 s1 hxs HB HT
      by_cases h32 : sg = s
      · have t1 : (sg != s) = false := by simp [h32]
        go_wp2_with (go_at_call 177; refine (other_any _ s _ _ _ (hc.cellNever hp)).mono ?_; rintro e w2 ⟨rfl, hc2⟩)
        go_roundw
        case rel => exact ⟨k + 1, by omega, by go_num, by rw [Hid, HT.out]; exact decide_eq_true h32, hc.trans hc2⟩
        case measure => simp [intOf] <;> omega
      · have t1 : (sg != s) = true := by simp [h32]
        have E := HB h32
        clear HB HT
        go_wp2_with (go_at_call 177; refine (other_any _ s _ _ _ (hc.cellNever hp)).mono ?_; rintro e w2 ⟨rfl, hc2⟩)
        go_ret
        exact ⟨k, rfl, by omega, by rw [E.out]; simp, hc.trans hc2⟩
    · go_wp2_with fail
      go_ret
      have E : allSign l s = true := by have := hf.out; rwa [List.take_of_length_le (by omega)] at this
      exact ⟨-1, rfl, by omega, by rw [E]; rfl, hc⟩
theorem contains_other (l : List Mark) (s : Int) (v : Value) (p : Addr) (w : World) (h : Rdv w Never v l) (hp : w.cell? p = some (.int .u8 s)) :
    Calls Tryz.prog 176 #[v, .func (.func 177) #[] #[.pointer (some p)]] w fun e w' => e = .returned (.bool (!(allSign l s))) ∧ Chg Never w w' := by
  go_enter Tryz.func176, Tryz.ntmps176
  go_wp2_with fail
  refine (index_other l s _ _ _ h hp).mono ?_
  rintro e w1 ⟨n, rfl, hn, hd, hc⟩
  have HD := Lib.hid hd
  clear hd
  go_wp2_with fail
  go_ret
  exact ⟨by rw [← HD.out]; rfl, hc⟩

theorem box_change (w : World) (T U : TypeId) (k s : Int) (p : ByteArray) (v : Value) (W : World) (hW : W = (w.alloc (.cells #[.int .i64 k, .string p, v] T)).alloc (.cells #[.int .u8 s] U)) :
    Chg Never w W ∧ W.cell? ⟨w.heap.size, 0, none⟩ = some (.int .i64 k) ∧ W.cell? ⟨w.heap.size, 1, none⟩ = some (.string p) ∧ W.cell? ⟨w.heap.size, 2, none⟩ = some v ∧ W.cell? ⟨w.heap.size + 1, 0, none⟩ = some (.int .u8 s) := by
  subst hW
  have hA : Chg Never w (w.alloc (.cells #[.int .i64 k, .string p, v] T)) := (Chg.refl Never w).alloc _
  have hB := (Chg.refl Never (w.alloc (.cells #[.int .i64 k, .string p, v] T))).alloc (.cells #[.int .u8 s] U)
  have n := heap_alloc_new w (.cells #[.int .i64 k, .string p, v] T)
  have n2 := heap_alloc_new (w.alloc (.cells #[.int .i64 k, .string p, v] T)) (.cells #[.int .u8 s] U)
  rw [World.size_alloc] at n2
  refine ⟨hA.trans hB, hB.cellNever ?_, hB.cellNever ?_, hB.cellNever ?_, ?_⟩
  · simp only [World.cell?]; rw [n]; rfl
  · simp only [World.cell?]; rw [n]; rfl
  · simp only [World.cell?]; rw [n]; rfl
  · simp only [World.cell?]; rw [n2]; rfl
theorem box1_change (w : World) (T : TypeId) (k : Int) (p : ByteArray) (v : Value) (W : World) (hW : W = w.alloc (.cells #[.int .i64 k, .string p, v] T)) :
    Chg Never w W ∧ W.cell? ⟨w.heap.size, 0, none⟩ = some (.int .i64 k) ∧ W.cell? ⟨w.heap.size, 1, none⟩ = some (.string p) ∧ W.cell? ⟨w.heap.size, 2, none⟩ = some v := by
  subst hW
  have n := heap_alloc_new w (.cells #[.int .i64 k, .string p, v] T)
  refine ⟨(Chg.refl Never w).alloc _, ?_, ?_, ?_⟩ <;> (simp only [World.cell?]; rw [n]; rfl)
theorem wholeB_one (h : Hunk) (s : Int) : wholeB [h] s = (decide (h.old = 0) && decide (h.new = 0) && allSign h.marks s) := rfl
theorem wholeB_many {l : List Hunk} {s : Int} (h : 2 ≤ l.length) : wholeB l s = false := by
  match l, h with
  | _ :: _ :: _, _ => rfl
set_option maxHeartbeats 2000000 in
set_option maxRecDepth 100000 in
theorem whole_go (wh : Int) (pa : ByteArray) (hs : List Hunk) (s : Int) (v : Value) (w : World) (h : Rdv w Never v hs) :
    Calls Tryz.prog 164 #[.agg #[.int .i64 wh, .string pa, v], .int .u8 s] w fun e w' => e = .returned (.bool (wholeB hs s)) ∧ Chg Never w w' := by
  obtain ⟨a, cap, rfl, h1, h2, h3⟩ := rdv_slice h
  obtain ⟨hA, b0, b1, b2, bs⟩ := box_change w 100 5 wh s pa (.slice a hs.length cap) _ rfl
  match hs, h, h1, h2, h3, hA, b0, b1, b2, bs with
  | [], h, h1, h2, h3, hA, b0, b1, b2, bs =>
    have e0 : wholeB [] s = true := rfl
    rw [e0]
    go_enter Tryz.func164, Tryz.ntmps164
    go_wp2_with fail
    go_ret
    exact ⟨rfl, hA⟩
  | [x], h, h1, h2, h3, hA, b0, b1, b2, bs =>
    obtain ⟨b, off, mv, rfl, _, _, c0, c1, c2, hmv⟩ := elems_hunk h3 (i := 0) rfl
    simp only [Nat.zero_mul, Nat.add_zero] at c0 c1 c2
    have c0 := hA.cellNever c0
    have c1 := hA.cellNever c1
    have c2 := hA.cellNever c2
    have hmv := hmv.never hA
    rw [wholeB_one]
    clear h3
    by_cases o : x.old = 0
    · by_cases n : x.new = 0
      · rw [decide_eq_true o, decide_eq_true n]
        have o0 : (x.old == 0) = true := by simp [o]
        have n0 : (x.new == 0) = true := by simp [n]
        clear o n
        go_enter Tryz.func164, Tryz.ntmps164
        go_wp2_with fail
        refine (contains_other x.marks s _ _ _ hmv bs).mono ?_
        rintro e w2 ⟨rfl, hc2⟩
        go_wp2_with fail
        go_ret
        exact ⟨by simp, hA.trans hc2⟩
      · rw [decide_eq_true o, decide_eq_false n]
        have o0 : (x.old == 0) = true := by simp [o]
        have n0 : (x.new == 0) = false := by simp [n]
        clear o n
        go_enter Tryz.func164, Tryz.ntmps164
        go_wp2_with fail
        go_ret
        exact ⟨rfl, hA⟩
    · rw [decide_eq_false o]
      have o0 : (x.old == 0) = false := by simp [o]
      clear o
      go_enter Tryz.func164, Tryz.ntmps164
      go_wp2_with fail
      go_ret
      exact ⟨rfl, hA⟩
  | x :: y :: r, h, h1, h2, h3, hA, b0, b1, b2, bs =>
    rw [wholeB_many (by simp)]
    generalize hL : x :: y :: r = L at b0 b1 b2 bs h h1 h2 hA ⊢
    have hge : 2 ≤ L.length := by rw [← hL]; simp
    have t0 : ((L.length : Int) == 0) = false := beq_eq_false_iff_ne.2 (by omega)
    have t1 : ((L.length : Int) == 1) = false := beq_eq_false_iff_ne.2 (by omega)
    clear hL h3
    go_enter Tryz.func164, Tryz.ntmps164
    go_wp2_with fail
    go_ret
    exact ⟨rfl, hA⟩
theorem whole_any (c : Change) (s : Int) (v : Value) (w : World) (h : Rdv w Never v c.hunks) :
    Calls Tryz.prog 164 #[.agg #[.int .i64 c.what, .string c.path, v], .int .u8 s] w fun e w' => e = .returned (.bool (wholeB c.hunks s)) ∧ Chg Never w w' := whole_go _ _ _ _ _ _ h
end Go.Proofs.YtmjpfoeaobdaeaaGreatDoor
namespace Go.Proofs.YtmjpfoeaobdaeaaGreatDoor
open Go.RowKit

set_option maxHeartbeats 1000000 in
set_option maxRecDepth 100000 in
theorem shape_any (c : Change) (v : Value) (w : World) (h : Rdv w Never v c.hunks) :
    Calls Tryz.prog 148 #[.agg #[.int .i64 c.what, .string c.path, v]] w fun e w' => e = .returned (.bool (shapeB c)) ∧ Chg Never w w' := by
  obtain ⟨a, cap, rfl, h1, h2, _⟩ := rdv_slice h
  obtain ⟨hA, b0, b1, b2⟩ := box1_change w 100 c.what c.path (.slice a c.hunks.length cap) _ rfl
  by_cases k2 : c.what = 2
  · have E : Hid (shapeB c = wholeB c.hunks 43) := if_pos k2
    have t2 : (c.what == 2) = true := by simp [k2]
    clear k2
    go_enter Tryz.func148, Tryz.ntmps148
    go_wp2_with fail
    refine (whole_any c 43 _ _ (h.never hA)).mono ?_
    rintro e w2 ⟨rfl, hc2⟩
    go_wp2_with fail
    go_ret
    exact ⟨by rw [E.out]; rfl, hA.trans hc2⟩
  · have t2 : (c.what == 2) = false := by simp [k2]
    by_cases k3 : c.what = 3
    · have E : Hid (shapeB c = wholeB c.hunks 45) := by unfold Hid shapeB; rw [if_neg k2, if_pos k3]
      have t3 : (c.what == 3) = true := by simp [k3]
      clear k2 k3
      go_enter Tryz.func148, Tryz.ntmps148
      go_wp2_with fail
      refine (whole_any c 45 _ _ (h.never hA)).mono ?_
      rintro e w2 ⟨rfl, hc2⟩
      go_wp2_with fail
      go_ret
      exact ⟨by rw [E.out]; rfl, hA.trans hc2⟩
    · have E : Hid (shapeB c = decide (0 < c.hunks.length)) := by
        unfold Hid shapeB
        rw [if_neg k2, if_neg k3]
        cases c.hunks <;> simp
      have t3 : (c.what == 3) = false := by simp [k3]
      clear k2 k3
      go_enter Tryz.func148, Tryz.ntmps148
      go_wp2_with fail
      go_ret
      exact ⟨by rw [E.out]; rfl, hA⟩
theorem cf_rng {c : Change} (h : c.what < 1 ∨ 3 < c.what) : changeFault c = 1 := if_pos h
theorem cf_path {c : Change} (h : ¬ (c.what < 1 ∨ 3 < c.what)) (g : pathFault c.path ≠ 0) : changeFault c = pathFault c.path := by unfold changeFault; rw [if_neg h, if_pos g]
theorem cf_hunks {c : Change} (h : ¬ (c.what < 1 ∨ 3 < c.what)) (g : pathFault c.path = 0) (k : (hunksFault c.hunks).2 ≠ 0) : changeFault c = (hunksFault c.hunks).2 := by unfold changeFault; rw [if_neg h, if_neg (by rw [g]; decide), if_pos k]
theorem cf_shape {c : Change} (h : ¬ (c.what < 1 ∨ 3 < c.what)) (g : pathFault c.path = 0) (k : (hunksFault c.hunks).2 = 0) (s : shapeB c = false) : changeFault c = 2 := by unfold changeFault; rw [if_neg h, if_neg (by rw [g]; decide), if_neg (by rw [k]; decide), if_neg (by rw [s]; decide)]
theorem cf_ok {c : Change} (h : ¬ (c.what < 1 ∨ 3 < c.what)) (g : pathFault c.path = 0) (k : (hunksFault c.hunks).2 = 0) (s : shapeB c = true) : changeFault c = 0 := by unfold changeFault; rw [if_neg h, if_neg (by rw [g]; decide), if_neg (by rw [k]; decide), if_pos s]
set_option maxHeartbeats 2000000 in
set_option maxRecDepth 100000 in
theorem patch_one_any (c : Change) (v : Value) (w : World) (h : Rdv w Never v c.hunks) (m : Int) (hm : w.cell? ⟨0, 0, none⟩ = some (.int .i64 m)) :
    Calls Tryz.prog 119 #[.agg #[.int .i64 c.what, .string c.path, v]] w fun e w' => e = .returned (errV (changeFault c)) ∧ Chg Never w w' := by
  obtain ⟨a, cap, rfl, h1, h2, _⟩ := rdv_slice h
  obtain ⟨hA, b0, b1, b2⟩ := box1_change w 100 c.what c.path (.slice a c.hunks.length cap) _ rfl
  by_cases r : c.what < 1 ∨ 3 < c.what
  · rw [cf_rng r]
    rcases r with r | r
    · go_enter Tryz.func119, Tryz.ntmps119
      go_wp2_with fail
      go_ret
      exact ⟨rfl, hA⟩
    · have r0 : ¬ c.what < 1 := by omega
      go_enter Tryz.func119, Tryz.ntmps119
      go_wp2_with fail
      go_ret
      exact ⟨rfl, hA⟩
  · have r0 : ¬ c.what < 1 := by omega
    have r1 : ¬ 3 < c.what := by omega
    by_cases z : pathFault c.path = 0
    · have Z := Lib.hid z
      by_cases y : (hunksFault c.hunks).2 = 0
      · have Y := Lib.hid y
        cases s : shapeB c with
        | true =>
          have E := Lib.hid (cf_ok r z y s)
          have S := Lib.hid s
          clear r z y s
          go_enter Tryz.func119, Tryz.ntmps119
          go_wp2_with fail
          generalize w.alloc (.cells #[.int .i64 c.what, .string c.path, .slice a c.hunks.length cap] 100) = wA at hA b0 b1 b2 ⊢
          refine (line_path_any c.path _ m (hA.cellNever hm)).mono ?_
          rintro e w2 ⟨rfl, hc2⟩
          have hw := hA.trans hc2
          have b0 := hc2.cellNever b0
          have b1 := hc2.cellNever b1
          have b2 := hc2.cellNever b2
          clear hc2
          rw [Z.out, errV_zero]
          go_wp2_with fail
          refine (hunk_check_any c.hunks _ _ (h.never hw)).mono ?_
          rintro e w3 ⟨rfl, hc3⟩
          have hw := hw.trans hc3
          have b0 := hc3.cellNever b0
          have b1 := hc3.cellNever b1
          have b2 := hc3.cellNever b2
          clear hc3
          rw [Y.out, errV_zero]
          go_wp2_with fail
          refine (shape_any c _ _ (h.never hw)).mono ?_
          rintro e w4 ⟨rfl, hc4⟩
          rw [S.out]
          clear b0 b1 b2
          go_wp2_with fail
          go_ret
          exact ⟨by rw [E.out]; rfl, hw.trans hc4⟩
        | false =>
          have E := Lib.hid (cf_shape r z y s)
          have S := Lib.hid s
          clear r z y s
          go_enter Tryz.func119, Tryz.ntmps119
          go_wp2_with fail
          generalize w.alloc (.cells #[.int .i64 c.what, .string c.path, .slice a c.hunks.length cap] 100) = wA at hA b0 b1 b2 ⊢
          refine (line_path_any c.path _ m (hA.cellNever hm)).mono ?_
          rintro e w2 ⟨rfl, hc2⟩
          have hw := hA.trans hc2
          have b0 := hc2.cellNever b0
          have b1 := hc2.cellNever b1
          have b2 := hc2.cellNever b2
          clear hc2
          rw [Z.out, errV_zero]
          go_wp2_with fail
          refine (hunk_check_any c.hunks _ _ (h.never hw)).mono ?_
          rintro e w3 ⟨rfl, hc3⟩
          have hw := hw.trans hc3
          have b0 := hc3.cellNever b0
          have b1 := hc3.cellNever b1
          have b2 := hc3.cellNever b2
          clear hc3
          rw [Y.out, errV_zero]
          go_wp2_with fail
          refine (shape_any c _ _ (h.never hw)).mono ?_
          rintro e w4 ⟨rfl, hc4⟩
          rw [S.out]
          clear b0 b1 b2
          go_wp2_with fail
          go_ret
          exact ⟨by rw [E.out]; rfl, hw.trans hc4⟩
      · have E := Lib.hid (cf_hunks r z y)
        have Y := Lib.hid y
        clear r z y
        go_enter Tryz.func119, Tryz.ntmps119
        go_wp2_with fail
        generalize w.alloc (.cells #[.int .i64 c.what, .string c.path, .slice a c.hunks.length cap] 100) = wA at hA b0 b1 b2 ⊢
        refine (line_path_any c.path _ m (hA.cellNever hm)).mono ?_
        rintro e w2 ⟨rfl, hc2⟩
        have hw := hA.trans hc2
        have b0 := hc2.cellNever b0
        have b1 := hc2.cellNever b1
        have b2 := hc2.cellNever b2
        clear hc2
        rw [Z.out, errV_zero]
        go_wp2_with fail
        refine (hunk_check_any c.hunks _ _ (h.never hw)).mono ?_
        rintro e w3 ⟨rfl, hc3⟩
        have hw := hw.trans hc3
        have b0 := hc3.cellNever b0
        have b1 := hc3.cellNever b1
        have b2 := hc3.cellNever b2
        clear hc3
        rw [errV_pos Y.out]
        clear b0 b1 b2
        go_wp2_with fail
        go_ret
        exact ⟨by rw [E.out, errV_pos Y.out]; rfl, hw⟩
    · have E := Lib.hid (cf_path r z)
      have Z := Lib.hid z
      clear r z
      go_enter Tryz.func119, Tryz.ntmps119
      go_wp2_with fail
      generalize w.alloc (.cells #[.int .i64 c.what, .string c.path, .slice a c.hunks.length cap] 100) = wA at hA b0 b1 b2 ⊢
      refine (line_path_any c.path _ m (hA.cellNever hm)).mono ?_
      rintro e w2 ⟨rfl, hc2⟩
      have hw := hA.trans hc2
      have b0 := hc2.cellNever b0
      have b1 := hc2.cellNever b1
      have b2 := hc2.cellNever b2
      clear hc2
      rw [errV_pos Z.out]
      clear b0 b1 b2
      go_wp2_with fail
      go_ret
      exact ⟨by rw [E.out, errV_pos Z.out]; rfl, hw⟩
def prevC (t : List Change) (k : Nat) : Option ByteArray := if k = 0 then none else (t[k - 1]?).map (·.path)
theorem prevC_succ {t : List Change} {k : Nat} {f : Change} (h : t[k]? = some f) : prevC t (k + 1) = some f.path := by unfold prevC; simp [h]
theorem patchGo_next {t : List Change} {k : Nat} {f : Change} {prev : Option ByteArray} (hd : t.drop k = f :: t.drop (k + 1)) (h1 : changeFault f = 0) (h2 : prev.any (fun p => leqB f.path p) = false) : patchGo k prev (t.drop k) = patchGo (k + 1) (some f.path) (t.drop (k + 1)) := by
  rw [hd, patchGo, if_neg (by simp [h1]), if_neg (by rw [h2]; decide)]
theorem patchGo_bad {t : List Change} {k : Nat} {f : Change} {prev : Option ByteArray} (hd : t.drop k = f :: t.drop (k + 1)) (h1 : changeFault f ≠ 0) : patchGo k prev (t.drop k) = (k, changeFault f) := by
  rw [hd, patchGo, if_pos h1]
theorem patchGo_order {t : List Change} {k : Nat} {f : Change} {p : ByteArray} (hd : t.drop k = f :: t.drop (k + 1)) (h1 : changeFault f = 0) (h2 : leqB f.path p = true) : patchGo k (some p) (t.drop k) = (k, 2) := by
  rw [hd, patchGo, if_neg (by simp [h1]), if_pos (by simpa using h2)]
theorem patchGo_end {t : List Change} {prev : Option ByteArray} : patchGo t.length prev (t.drop t.length) = (0, 0) := by rw [List.drop_length]; rfl
set_option maxHeartbeats 2000000 in
set_option maxRecDepth 100000 in
theorem patch_check_any (t : List Change) (v : Value) (w : World) (h : Rdv w Never v t) (m : Int) (hm : w.cell? ⟨0, 0, none⟩ = some (.int .i64 m)) :
    Calls Tryz.prog 84 #[v] w fun e w' => e = .returned (.tuple #[.int .i64 (patchFault t).1, errV (patchFault t).2]) ∧ Chg Never w w' := by
  obtain ⟨a, cap, rfl, h1, h2, h3⟩ := rdv_slice h
  unfold maxLen at h2
  by_cases h8 : 16 < t.length
  · have HF : Hid (patchFault t = (0, 3)) := if_pos h8
    go_enter Tryz.func84, Tryz.ntmps84
    go_wp2_with fail
    go_ret2
    exact ⟨by rw [HF.out]; rfl, Chg.refl _ _⟩
  · have HF : Hid (patchFault t = patchGo 0 (prevC t 0) (t.drop 0)) := if_neg h8
    go_enter Tryz.func84, Tryz.ntmps84
    go_wp2_with fail
    go_loopw [13] (fun i wr => ∃ k : Nat, k ≤ t.length ∧ i = .int .i64 k ∧ Chg Never w wr ∧ Hid (patchFault t = patchGo k (prevC t k) (t.drop k))) (fun i _ => t.length - (intOf i).toNat)
    case atStart => exact ⟨0, Nat.zero_le _, rfl, Chg.refl _ _, HF.out⟩
    case round =>
      clear HF
      obtain ⟨k, hk, rfl, hc, hG⟩ := hrel
      by_cases hlt : k < t.length
      · obtain ⟨x, hx⟩ : ∃ x, t[k]? = some x := ⟨t[k], by simp [hlt]⟩
        obtain ⟨b, off, lv, rfl, _, _, c0, c1, c2, hps, hlv⟩ := elems_change h3 hx
        obtain ⟨la, lcap, rfl, _, _, _⟩ := rdv_slice hlv
        have c0 := hc.cellNever c0
        have c1 := hc.cellNever c1
        have c2 := hc.cellNever c2
        have hlv := hlv.never hc
        have HD := Lib.hid (drop_eq hx)
        have HPV := Lib.hid (prevC_succ hx)
        have HX := Lib.hid hx
        obtain ⟨hA, b0, b1, b2⟩ := box1_change wr 100 x.what x.path (.slice la x.hunks.length lcap) _ rfl
        clear hx
        by_cases p0 : changeFault x = 0
        · have HFF := Lib.hid p0
          clear p0
          go_wp2_with fail
          generalize wr.alloc (.cells #[.int .i64 x.what, .string x.path, .slice la x.hunks.length lcap] 100) = w3 at hA b0 b1 b2 ⊢
          have hc3 := hc.trans hA
          refine (patch_one_any x _ _ (hlv.never hA) m (hc3.cellNever hm)).mono ?_
          rintro e w4 ⟨rfl, hc4⟩
          have b1 := hc4.cellNever b1
          have hcD := hc3.trans hc4
          clear hc4 hc3 hA c0 c1 c2 b0 b2
          rw [HFF.out, errV_zero]
          rcases Nat.eq_zero_or_pos k with h0 | h0
          · subst h0
            have HNX : Hid (patchFault t = patchGo (0 + 1) (prevC t (0 + 1)) (t.drop (0 + 1))) := by rw [Hid, HPV.out, hG.out]; exact patchGo_next HD.out HFF.out rfl
            clear hG
            go_wp2_with fail
            go_quiet (fail)
            go_wp2_with fail
            go_roundw
            case rel => exact ⟨0 + 1, by omega, by go_num, hcD.drewN _, HNX⟩
            case measure => simp [intOf] <;> omega
          · obtain ⟨k', rfl⟩ : ∃ k', k = k' + 1 := ⟨k - 1, by omega⟩
            obtain ⟨y, hy⟩ : ∃ y, t[k']? = some y := ⟨t[k']'(by omega), by simp [show k' < t.length by omega]⟩
            obtain ⟨b', off', lv', hbo, _, _, _, y0, _, _, _⟩ := elems_change h3 hy
            simp only [Option.some.injEq, Addr.mk.injEq, and_true] at hbo
            obtain ⟨rfl, rfl⟩ := hbo
            have y0 := hcD.cellNever y0
            have HPY : Hid (prevC t (k' + 1) = some y.path) := prevC_succ hy
            have z1 : (k' : Int) + 1 - 1 = k' := by omega
            have z2 : decide ((0 : Int) < (k' : Int) + 1) = true := decide_eq_true (by omega)
            clear hy
            rcases less_tri x.path y.path with g | g | g
            · have HE : Hid (patchFault t = (k' + 1, 2)) := by rw [Hid, hG.out, HPY.out]; exact patchGo_order HD.out HFF.out (leqB_true.2 (less_asymm g))
              have a1 : Op.bytesLess x.path.toList y.path.toList = true := g
              clear g hG
              go_wp2_with fail
              go_quiet (fail)
              go_wp2_with fail; go_ret2; exact ⟨by rw [HE.out]; rfl, hcD.drewN _⟩
            · have HE : Hid (patchFault t = (k' + 1, 2)) := by rw [Hid, hG.out, HPY.out]; exact patchGo_order HD.out HFF.out (leqB_true.2 (by rw [g]; exact less_irrefl _))
              have a1 : Op.bytesLess x.path.toList y.path.toList = false := by rw [g]; exact bl_irrefl _
              have a2 : (x.path.toList == y.path.toList) = true := by rw [g]; exact beq_self_eq_true _
              clear g hG
              go_wp2_with fail
              go_quiet (fail)
              go_wp2_with fail; go_ret2; exact ⟨by rw [HE.out]; rfl, hcD.drewN _⟩
            · have HNX : Hid (patchFault t = patchGo (k' + 1 + 1) (prevC t (k' + 1 + 1)) (t.drop (k' + 1 + 1))) := by
                rw [Hid, HPV.out, hG.out]
                refine patchGo_next HD.out HFF.out ?_
                rw [HPY.out, Option.any_some, Bool.eq_false_iff]
                intro e
                rw [leqB_true.1 e] at g; cases g
              have a1 : Op.bytesLess x.path.toList y.path.toList = false := less_asymm g
              have a2 := str_beq_false (less_ne g).symm
              clear g hG
              go_wp2_with fail
              go_quiet (fail)
              go_wp2_with fail
              go_roundw
              case rel => exact ⟨k' + 1 + 1, by omega, by go_num, hcD.drewN _, HNX⟩
              case measure => simp [intOf] <;> omega
        · have HE : Hid (patchFault t = (k, changeFault x)) := by rw [Hid, hG.out, patchGo_bad HD.out p0]
          have P0 := Lib.hid p0
          clear p0 hG
          go_wp2_with fail
          generalize wr.alloc (.cells #[.int .i64 x.what, .string x.path, .slice la x.hunks.length lcap] 100) = w3 at hA b0 b1 b2 ⊢
          have hc3 := hc.trans hA
          refine (patch_one_any x _ _ (hlv.never hA) m (hc3.cellNever hm)).mono ?_
          rintro e w4 ⟨rfl, hc4⟩
          have b1 := hc4.cellNever b1
          have hcD := hc3.trans hc4
          clear hc4 hc3 hA c0 c1 c2 b0 b2
          rw [errV_pos P0.out]
          go_wp2_with fail
          go_ret2
          exact ⟨by rw [HE.out, errV_pos P0.out]; rfl, hcD⟩
      · obtain rfl : k = t.length := by omega
        have e := hG.out
        rw [patchGo_end] at e
        have HE := Lib.hid e
        clear hG e
        go_wp2_with fail
        go_ret2
        exact ⟨by rw [HE.out]; rfl, hc⟩
end Go.Proofs.YtmjpfoeaobdaeaaGreatDoor
