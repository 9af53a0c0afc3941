/-
  PARTS: THE WALK of mail.Open.; THE LAW TopPosted, walked.
-/
import Derived.Test.YtjiaidchcldocaaGreatDoorPg1
import Derived.Test.YtjiaidchcldocaaGreatDoorPg2
import Derived.Test.YtjiaidchcldocaaGreatDoorPg3
import Derived.Test.YtjiaidchcldocaaGreatDoorPg4
import Derived.Test.YtjiaidchcldocaaGreatDoorPg5
import Derived.Test.YtjiaidchcldocaaGreatDoorPg6
import Derived.Test.YtjiaidchcldocaaGreatDoorPg7
import Derived.Test.YtjiaidchcldocaaGreatDoorPg8
import Derived.Test.YtjiaidchcldocaaGreatDoorPg9
import Derived.Test.YtjiaidchcldocaaGreatDoorPg10
import Derived.Test.YtjiaidchcldocaaGreatDoorPg11
import Derived.Test.YtjiaidchcldocaaGreatDoorPg12
import Derived.Test.YtjiaidchcldocaaGreatDoorPg13
import Derived.Test.YtjiaidchcldocaaGreatDoorPg14
import Derived.Test.YtjiaidchcldocaaGreatDoorPg15
import Derived.Test.YtjiaidchcldocaaGreatDoorPg16
import Derived.Test.YtjiaidchcldocaaGreatDoorPg17
import Derived.Test.YtjiaidchcldocaaGreatDoorPg18
import Derived.Test.YtjiaidchcldocaaGreatDoorPg19
import Derived.Test.YtjiaidchcldocaaGreatDoorPg20
import Derived.Test.YtjiaidchcldocaaGreatDoorPg21
import Derived.Test.YtjiaidchcldocaaGreatDoorPg22
import Derived.Test.YtjiaidchcldocaaGreatDoorPg23
import Derived.Test.YtjiaidchcldocaaGreatDoorPg24
import Derived.Test.YtjiaidchcldocaaGreatDoorPg25
import Derived.Test.YtjiaidchcldocaaGreatDoorPg26
import Derived.Test.YtjiaidchcldocaaGreatDoorPg27
import Derived.Test.YtjiaidchcldocaaGreatDoorPg28
import Derived.Test.YtjiaidchcldocaaGreatDoorPg29
import Derived.Test.YtjiaidchcldocaaGreatDoorPg30
import Derived.Test.YtjiaidchcldocaaGreatDoorPg31
import Derived.Test.YtjiaidchcldocaaGreatDoorPg32
import Derived.Test.YtjiaidchcldocaaGreatDoorPg33
import Derived.Test.YtjiaidchcldocaaGreatDoorPg34
import Derived.Test.YtjiaidchcldocaaGreatDoorPg35
import Derived.Test.YtjiaidchcldocaaGreatDoorPg36
import Derived.Test.YtjiaidchcldocaaGreatDoorPg37
import Derived.Test.YtjiaidchcldocaaGreatDoorPg38
import Derived.Test.YtjiaidchcldocaaGreatDoorQi4
set_option linter.unusedVariables false
set_option linter.unusedSimpArgs false
namespace Go.Proofs.YtjiaidchcldocaaGreatDoor
open Go.RowKit

def openR (s : ByteArray) : List Mail := (parseBox s.data.toList).getD []
def openF (s : ByteArray) : Int := if (parseBox s.data.toList).isSome = true then 0 else 5
theorem open_none {s : ByteArray} (h : parseBox s.data.toList = none) : openR s = [] ∧ openF s = 5 := by
  unfold openR openF; rw [h]; exact ⟨rfl, rfl⟩
theorem open_some {s : ByteArray} {l : List Mail} (h : parseBox s.data.toList = some l) : openR s = l ∧ openF s = 0 := by
  unfold openR openF; rw [h]; exact ⟨rfl, rfl⟩
theorem parse_some {s : ByteArray} {m : Mail} (h : parseM s.data.toList = some m) : parseR s = m ∧ parseF s = 0 := by
  unfold parseR parseF; rw [h]; exact ⟨rfl, rfl⟩
theorem parse_none {s : ByteArray} (h : parseM s.data.toList = none) : parseF s = 5 := by
  unfold parseF; rw [h]; rfl
theorem mail_sizes {s : List UInt8} {m : Mail} (h : parseM s = some m) : MailSz m := by
  obtain ⟨w1, w2, w3, _⟩ := mail_ok (mail_some h).2
  have s1 := word_size w1
  have s2 := word_size w2
  have s3 := word_size w3
  unfold MailSz maxLen; omega
/-- strings.Split(rest, "\nFrom - \n") -/
theorem boxes_eq (s : ByteArray) : Lib.splitB (toB sepW) 0 (Lib.countB s (toB sepW)) s = (splitAll s.size s.data.toList).map toB := by
  have h := Lib.splitB_data (toB sepW) 0 (Lib.countB s (toB sepW)) s
  have h2 := split_sep s.data.toList
  have h3 : Lib.countB s (toB sepW) = Lib.count s.data.toList sepW := by unfold Lib.countB; rw [toB_data]
  rw [h3] at h ⊢
  rw [toB_data, h2, ← Lib.size_eq] at h
  rw [← h, List.map_map, map_toB]
theorem cutsK_small {t : List UInt8} : ∀ (k : Nat) (s x : List UInt8), x ∈ cutsK t k s → x.length ≤ s.length
  | 0, s, x, h => by rw [cutsK] at h; rw [List.mem_singleton.1 h]; exact Nat.le_refl _
  | k + 1, s, x, h => by
    rw [cutsK] at h
    cases hc : cutSub t s with
    | none => rw [hc] at h; rw [List.mem_singleton.1 h]; exact Nat.le_refl _
    | some p =>
      rw [hc] at h
      have e := congrArg List.length (cut_some (a := p.1) (b := p.2) hc)
      simp only [List.length_append] at e
      rcases List.mem_cons.1 h with rfl | h
      · omega
      · have := cutsK_small k p.2 x h; omega
theorem split_small {s x : List UInt8} (h : x ∈ splitAll s.length s) : x.length ≤ s.length := by rw [splitAll_cuts] at h; exact cutsK_small _ _ _ h
theorem split_nonempty (s : List UInt8) : ∃ i z, splitAll s.length s = i ++ [z] := last_of (split_pos s)
theorem cutsK_len' (t : List UInt8) : ∀ (k : Nat) (s : List UInt8), (cutsK t k s).length ≤ k + 1
  | 0, s => by rw [cutsK]; simp
  | k + 1, s => by
    rw [cutsK]
    cases cutSub t s with
    | none => simp
    | some p => have := cutsK_len' t k p.2; simp; omega
theorem cutsK_len (s : List UInt8) : (splitAll s.length s).length ≤ s.length + 1 := by rw [splitAll_cuts]; exact cutsK_len' _ _ _
/-- a row of strings of which the last one is written -/
theorem rdv_last {w : World} {g : Nat} {e : TypeId} {i : List ByteArray} {z y : ByteArray} (h : w.heap[g]? = some (.cells ((i ++ [z]).map Value.string).toArray e (0, 0))) (hl : i.length < maxLen) (hs : ∀ x ∈ i ++ [y], x.size ≤ maxLen) {O : Nat → Prop} (hO : ¬ O g) :
    w.cell? ⟨g, i.length, none⟩ = some (.string z) ∧ w.frozen? ⟨g, i.length, none⟩ = false ∧ Rdv (w.setCell ⟨g, i.length, none⟩ (.string y)) O (.slice (some ⟨g, 0, none⟩) (i.length + 1) (i.length + 1)) (i ++ [y]) := by
  refine ⟨by simp [World.cell?, h], by simp [World.frozen?, h], ?_⟩
  refine rdv_strs (e := e) (g := g) ?_ hO (by simp) (by simp; omega) hs
  simp [World.setCell, Array.getElem?_modify, h]
/-- the parts that are still to be read -/
def AllInv (ps : List (List UInt8)) (k : Nat) (L : List Mail) : Prop := (allM (ps.drop k)).map (L ++ ·) = allM ps
theorem ainv_start (ps : List (List UInt8)) : AllInv ps 0 [] := by simp [AllInv]
theorem ainv_end {ps : List (List UInt8)} {k : Nat} {L : List Mail} (h : AllInv ps k L) (hk : ps.length ≤ k) : allM ps = some L := by
  rw [← h, List.drop_of_length_le hk]; simp [allM]
theorem ainv_bad {ps : List (List UInt8)} {k : Nat} {L : List Mail} {x : List UInt8} (h : AllInv ps k L) (hx : ps[k]? = some x) (hm : parseM x = none) : allM ps = none := by
  rw [← h, drop_eq hx, allM, hm]; rfl
theorem ainv_step {ps : List (List UInt8)} {k : Nat} {L : List Mail} {x : List UInt8} {m : Mail} (h : AllInv ps k L) (hx : ps[k]? = some x) (hm : parseM x = some m) : AllInv ps (k + 1) (L ++ [m]) := by
  unfold AllInv at *
  rw [← h, drop_eq hx, allM, hm]
  cases allM (ps.drop (k + 1)) with
  | none => rfl
  | some q => simp

set_option maxHeartbeats 1000000 in
set_option maxRecDepth 100000 in
theorem open_any (s : ByteArray) (w : World) (hs : s.size ≤ 10000000) (m : Int) (hm : w.cell? ⟨1, 0, none⟩ = some (.int .i64 m)) :
    Calls Tryz.prog 38 #[.string s] w fun e w' => ∃ r, e = .returned (.tuple #[r, errV (openF s)]) ∧ Chg Never w w' ∧ Rdv w' (Old w.heap.size) r (openR s) := by
  by_cases h0 : s = ByteArray.empty
  · subst h0
    have hp : parseBox ByteArray.empty.data.toList = some [] := rfl
    obtain ⟨HR, HF⟩ := open_some hp
    have HR := Lib.hid HR
    have HF := Lib.hid HF
    have t1 : (ByteArray.empty.toList == []) = true := by rw [Lib.toList_data]; rfl
    have t2 : ByteArray.empty.toList.isEmpty = true := by rw [Lib.toList_data]; rfl
    go_enter Tryz.func38, Tryz.ntmps38
    go_wp2_with fail
    go_ret2
    exact ⟨_, by rw [HF.out]; rfl, Chg.refl _ _, by rw [HR.out]; exact rdv_nil _ _⟩
  · obtain ⟨b0, c0, hbc⟩ := str_ne_empty h0
    have t2 : s.toList.isEmpty = false := by rw [Lib.toList_data, hbc]; simp
    have t1 : (s.toList == []) = false := by rw [Lib.toList_data, hbc]; simp
    have hne : s.data.toList ≠ [] := by rw [hbc]; simp
    clear hbc h0
    have hw := Chg.refl Never w
    cases hd : dropPre markW s.data.toList with
    | none =>
      have hp : parseBox s.data.toList = none := by unfold parseBox; rw [if_neg hne, hd]
      obtain ⟨HR, HF⟩ := open_none hp
      have HR := Lib.hid HR
      have HF := Lib.hid HF
      have hpre : Hid (Lib.hasPrefix s.data.toList (toB markW).data.toList = false) := by
        unfold Hid Lib.hasPrefix
        rw [toB_data]
        unfold dropPre at hd
        by_cases q : markW.isPrefixOf s.data.toList = true
        · rw [if_pos q] at hd; cases hd
        · exact Bool.eq_false_iff.2 q
      clear hd hp hne
      go_enter Tryz.func38, Tryz.ntmps38
      go_wp2_with fail
      refine (Tryz.strings_CutPrefix s (toB markW) _).mono ?_
      rintro e w1 ⟨rfl, rfl⟩
      rw [hpre.out]
      go_wp2_with fail
      go_ret2
      exact ⟨_, by rw [HF.out, errV_pos (by decide)]; rfl, hw, by rw [HR.out]; exact rdv_nil _ _⟩
    | some r =>
      have hpre : Hid (Lib.hasPrefix s.data.toList (toB markW).data.toList = true) := by
        unfold Hid Lib.hasPrefix
        rw [toB_data, pre_some hd]
        exact List.isPrefixOf_iff_prefix.2 ⟨r, rfl⟩
      have htr : Hid (Lib.trimPrefix s.data.toList (toB markW).data.toList = r) := by
        rw [Hid, trim_pre, toB_data, hd]; rfl
      have hrs : r.length ≤ 10000000 := by
        have := congrArg List.length (pre_some hd)
        rw [List.length_append, ← Lib.size_eq] at this
        omega
      have hpb : Hid (parseBox s.data.toList = if 16 < (splitAll r.length r).length then none else match dropSuf [10] ((splitAll r.length r).getLastD []) with
          | none => none
          | some y => allM ((splitAll r.length r).dropLast ++ [y])) := by
        unfold Hid parseBox; rw [if_neg hne, hd]; rfl
      obtain ⟨i, z, hiz⟩ := split_nonempty r
      have hsp := boxes_eq (toB r)
      rw [toB_data, toB_size, hiz] at hsp
      have hcount : Lib.countB (toB r) (toB sepW) + 1 = i.length + 1 := by
        have := Lib.splitB_all (toB sepW) (by decide) 0 _ (toB r) rfl
        rw [← this, hsp]; simp
      have hsm : ∀ x ∈ i ++ [z], x.length ≤ 10000000 := fun x hx => by
        have := split_small (s := r) (x := x) (by rw [hiz]; exact hx)
        omega
      have HIZ := Lib.hid hiz
      rw [hiz] at hpb
      rw [List.getLastD_concat, List.dropLast_concat] at hpb
      have HSP := Lib.hid hsp
      have HC := Lib.hid hcount
      clear hiz hsp hcount hd hne
      go_enter Tryz.func38, Tryz.ntmps38
      go_wp2_with fail
      refine (Tryz.strings_CutPrefix s (toB markW) _).mono ?_
      rintro e w1 ⟨rfl, rfl⟩
      rename World => w
      rw [hpre.out, htr.out]
      clear hpre htr
      go_wp2_with fail
      refine (Tryz.strings_Split (toB r) (toB sepW) m _ (by rw [toB_size]; omega) hm (by decide)).mono ?_
      rintro e w2 ⟨rfl, rfl⟩
      rename World => w
      rw [HSP.out, HC.out, List.map_append, List.map_cons, List.map_nil]
      have hA : Chg Never w (w.alloc (.cells (List.map Value.string (List.map toB i ++ [toB z])).toArray 9)) := (Chg.refl Never w).alloc _
      have hblk := heap_alloc_new w (.cells (List.map Value.string (List.map toB i ++ [toB z])).toArray 9)
      generalize w.alloc (.cells (List.map Value.string (List.map toB i ++ [toB z])).toArray 9) = w2 at hA hblk ⊢
      have hB0 : w.heap.size < w2.heap.size := (Array.getElem?_eq_some_iff.1 hblk).1
      have hil : (i.map toB).length = i.length := List.length_map ..
      have hpl : (splitAll r.length r).length ≤ r.length + 1 := cutsK_len r
      have hil2 : i.length ≤ 10000000 := by rw [HIZ.out] at hpl; simp at hpl; omega
      by_cases h16 : 16 < i.length + 1
      · have hp : parseBox s.data.toList = none := by rw [hpb.out, if_pos (by simpa using h16)]
        obtain ⟨HR, HF⟩ := open_none hp
        have HR := Lib.hid HR
        have HF := Lib.hid HF
        have hw := hA
        have t16 : decide ((16 : Int) < (i.length : Int) + 1) = true := decide_eq_true (by omega)
        have t16n : decide (16 < i.length + 1) = true := decide_eq_true h16
        clear hp h16 hpb hblk
        go_wp2_with fail
        go_ret2
        exact ⟨_, by rw [HF.out, errV_pos (by decide)]; rfl, hw, by rw [HR.out]; exact rdv_nil _ _⟩
      · have t16 : decide ((16 : Int) < (i.length : Int) + 1) = false := decide_eq_false (by omega)
        have t16n : decide (16 < i.length + 1) = false := decide_eq_false h16
        have hpb2 : Hid (parseBox s.data.toList = match dropSuf [10] z with
          | none => none
          | some y => allM (i ++ [y])) := by rw [Hid, hpb.out, if_neg (by simpa using h16)]
        have hzs := hsm z (by simp)
        obtain ⟨cL, fL, -⟩ := rdv_last (y := toB z) hblk (by rw [hil]; unfold maxLen; omega) (fun x hx => by
          rcases List.mem_append.1 hx with hx | hx
          · obtain ⟨q, hq, rfl⟩ := List.mem_map.1 hx
            have := hsm q (List.mem_append_left _ hq)
            rw [toB_size]; unfold maxLen; omega
          · rw [List.mem_singleton.1 hx, toB_size]; unfold maxLen; omega) (O := Never) (fun h => h)
        rw [hil] at cL fL
        clear hpb HSP HC
        go_wp2_with fail
        refine (Tryz.strings_CutSuffix (toB z) ⟨#[10]⟩ _ (by rw [toB_size]; omega)).mono ?_
        rintro e w3 ⟨rfl, rfl⟩
        rename World => w2
        rw [toB_data]
        cases hds : dropSuf [10] z with
        | none =>
          have hp : parseBox s.data.toList = none := by rw [hpb2.out, hds]
          obtain ⟨HR, HF⟩ := open_none hp
          have HR := Lib.hid HR
          have HF := Lib.hid HF
          have hsf : Lib.hasSuffix z (⟨#[10]⟩ : ByteArray).data.toList = false := by
            unfold dropSuf at hds
            by_cases q : [10].isSuffixOf z = true
            · rw [if_pos q] at hds; cases hds
            · exact Bool.eq_false_iff.2 q
          rw [hsf]
          have hw := hA
          clear hp hds hpb2 hblk hsf
          go_wp2_with fail
          go_ret2
          exact ⟨_, by rw [HF.out, errV_pos (by decide)]; rfl, hw, by rw [HR.out]; exact rdv_nil _ _⟩
        | some y =>
          have hsf : Lib.hasSuffix z (⟨#[10]⟩ : ByteArray).data.toList = true := by
            rw [suf_some hds]
            exact List.isSuffixOf_iff_suffix.2 ⟨y, rfl⟩
          have htr : Lib.trimSuffix z (⟨#[10]⟩ : ByteArray).data.toList = y := by
            rw [trim_suf]
            show (dropSuf [10] z).getD z = y
            rw [hds]; rfl
          have hpa : Hid (parseBox s.data.toList = allM (i ++ [y])) := by rw [Hid, hpb2.out, hds]
          have hys : y.length ≤ 10000000 := by
            have := congrArg List.length (suf_some hds)
            rw [List.length_append] at this
            omega
          have hsm2 : ∀ x ∈ i ++ [y], x.length ≤ 10000000 := fun x hx => by
            rcases List.mem_append.1 hx with hx | hx
            · exact hsm x (List.mem_append_left _ hx)
            · rw [List.mem_singleton.1 hx]; exact hys
          obtain ⟨-, -, hrd⟩ := rdv_last (y := toB y) hblk (by rw [hil]; unfold maxLen; omega) (fun x hx => by
            rcases List.mem_append.1 hx with hx | hx
            · obtain ⟨q, hq, rfl⟩ := List.mem_map.1 hx
              have := hsm q (List.mem_append_left _ hq)
              rw [toB_size]; unfold maxLen; omega
            · rw [List.mem_singleton.1 hx, toB_size]; unfold maxLen; omega) (O := Old w.heap.size) (Nat.lt_irrefl _)
          rw [hil] at hrd
          rw [hsf, htr]
          clear hsf htr hds hpb2 hsm
          rw [show (⟨y.toArray⟩ : ByteArray) = toB y from rfl]
          have hwS : Chg Never w (w2.setCell ⟨w.heap.size, i.length, none⟩ (.string (toB y))) := hA.setCell (.inl (Nat.le_refl _)) _
          clear hblk
          go_wp2_with fail
          generalize w2.setCell ⟨w.heap.size, i.length, none⟩ (.string (toB y)) = w4 at hrd hwS ⊢
          have hal := hrd
          obtain ⟨n, hn⟩ : ∃ n, i.length + 1 = n := ⟨_, rfl⟩
          have hps : (i ++ [y]).length = n := by simp [hn]
          obtain ⟨ps, hpse⟩ : ∃ ps, i ++ [y] = ps := ⟨_, rfl⟩
          have hmap : i.map toB ++ [toB y] = ps.map toB := by rw [← hpse]; simp
          rw [hpse] at hps hpa hsm2
          rw [hn, hmap] at hrd
          have hpn : n ≤ 16 := by omega
          have hni : ((i.length : Int) + 1) = (n : Int) := by omega
          rw [hn, hni]
          clear hni
          obtain ⟨aP, capP, hsl, -, -, hel⟩ := rdv_slice hrd
          simp only [Value.slice.injEq] at hsl
          obtain ⟨rfl, -, rfl⟩ := hsl
          have hmw := hwS.cellNever hm
          clear hn hmap hpse hal cL fL hys hzs t16 t16n h16 hil hil2 hpl HIZ hB0 hA
          go_loopw [8, 50] (fun o iv wr => ∃ (k : Nat) (L : List Mail), k ≤ n ∧ iv = .int .i64 k ∧ L.length = k ∧ Chg Never w4 wr ∧ Own 31 wr (Old w4.heap.size) o L ∧ Hid (AllInv ps k L)) (fun _ iv _ => n - (intOf iv).toNat)
          case atStart => exact ⟨0, [], Nat.zero_le _, rfl, rfl, Chg.refl _ _, own_nil _ _ _, ainv_start ps⟩
          case round =>
            obtain ⟨k, L, hk, rfl, hLk, hc, hown, hI⟩ := hrel
            rename World => wr
            have hwr := hwS.trans hc
            have hbl := own_block_lt hown
            by_cases hlt : k < n
            · obtain ⟨x, hx⟩ : ∃ x, ps[k]? = some x := ⟨ps[k]'(by omega), by simp [hps, hlt]⟩
              have hxm : (ps.map toB)[k]? = some (toB x) := by rw [List.getElem?_map, hx]; rfl
              obtain ⟨b, off, hq, _, _, c0, _⟩ := elems_str hel hxm
              simp only [Option.some.injEq, Addr.mk.injEq, and_true] at hq
              obtain ⟨rfl, rfl⟩ := hq
              have c0 := hc.cellNever c0
              rw [Nat.zero_add] at c0
              have hxs := hsm2 x (List.mem_of_getElem? hx)
              have b1 : (k : Int) < (n : Int) := by omega
              have t51 : decide ((k : Int) < (n : Int)) = true := decide_eq_true b1
              have t52 : decide (k < n) = true := decide_eq_true hlt
              have HX := Lib.hid hx
              clear hx hxm hel hsm2 hrd hrs hps
              go_wp2_with fail
              refine (Parse_any (toB x) _ (by rw [toB_size]; exact hxs) m (hc.cellNever hmw)).mono ?_
              rintro e w5 ⟨v, rfl, hc5, hr5⟩
              clear c0
              cases hpm : parseM x with
              | none =>
                have hp : parseBox s.data.toList = none := by rw [hpa.out]; exact ainv_bad hI.out HX.out hpm
                obtain ⟨HR, HF⟩ := open_none hp
                have HR := Lib.hid HR
                have HF := Lib.hid HF
                have HPF := parse_none (s := toB x) (by rw [toB_data]; exact hpm)
                rw [HPF, errV_pos (by decide)]
                obtain ⟨va, vc, rfl, -, -, -⟩ := rdv_slice hr5
                have hw := hwr.trans hc5
                clear hp hpm HPF hI hown
                go_wp2_with fail
                go_ret2
                exact ⟨_, by rw [HF.out, errV_pos (by decide)]; rfl, hw.alloc _, by rw [HR.out]; exact rdv_nil _ _⟩
              | some mm =>
                obtain ⟨HPR, HPF⟩ := parse_some (s := toB x) (m := mm) (by rw [toB_data]; exact hpm)
                have HI2 := Lib.hid (ainv_step hI.out HX.out hpm)
                have hmz := mail_sizes hpm
                rw [HPR] at hr5
                rw [HPF, HPR, errV_zero]
                obtain ⟨va, vc, rfl, _, _, _⟩ := rdv_slice hr5
                have hown5 := hown.never hc5
                have hwr5 := hwr.trans hc5
                have hc45 := hc.trans hc5
                clear HPF HPR hpm hI hown
                obtain ⟨gA, g0, g1, g2, g3⟩ := box1_mail w5 31 mm.sender mm.subject mm.ident (.slice va mm.body.length vc) _ rfl
                have hwA := hwr5.trans gA
                have hownA := hown5.never gA
                have hrA := hr5.never gA
                have hcA := hc45.trans gA
                have hlt5 := own_block_lt hown5
                have hsub : ∀ (q : World), ∀ j, j < q.heap.size → (Old w4.heap.size j ∨ u8.ownBlock = some j) → Old wr.heap.size j := fun q j _ hj => by
                  rcases hj with hj | hj
                  · exact Nat.lt_of_lt_of_le hj hc.size
                  · exact hbl j hj
                have hyr : Dat.rd (w5.alloc (.cells #[.string mm.sender, .string mm.subject, .string mm.ident, .slice va mm.body.length vc] 31)) (fun j => Old w4.heap.size j ∨ u8.ownBlock = some j) [.string mm.sender, .string mm.subject, .string mm.ident, .slice va mm.body.length vc] mm :=
                  ⟨_, rfl, hmz.1, hmz.2.1, hmz.2.2, hrA.sub (hsub _)⟩
                have holt : ∀ j, Old w4.heap.size j → j < (w5.alloc (.cells #[.string mm.sender, .string mm.subject, .string mm.ident, .slice va mm.body.length vc] 31)).heap.size := old_lt hcA
                clear hown5 hr5 hwr5 hc45 hlt5 hsub
                have hLl : L.length ≤ 1000000000 := by omega
                have HLK := Lib.hid hLk
                clear hLk
                go_wp2_with (at_builtin; refine wpList_push (by rfl) _ _ 24 (by rfl) elemOk_mail (O := Old w4.heap.size) (l := L) (y := mm) (by rfl) (by rfl) (by simp) hownA hyr holt hLl ?_; intro v' w7 hown7 hc7 _)
                have hc8 := own_step hcA hownA hc7
                clear hc7 hownA hyr holt hwA g0 g1 g2 g3 gA hrA
                go_wp2_with fail
                go_roundw
                case rel => exact ⟨k + 1, L ++ [mm], by omega, by go_num, by rw [List.length_append, HLK.out]; rfl, hc8, hown7, HI2⟩
                case measure => simp [intOf]; omega
            · have hp : parseBox s.data.toList = some L := by rw [hpa.out]; exact ainv_end hI.out (by omega)
              obtain ⟨HR, HF⟩ := open_some hp
              have HR := Lib.hid HR
              have HF := Lib.hid HF
              have hO := hown.rdv
              have t51 : decide ((k : Int) < (n : Int)) = false := decide_eq_false (by omega)
              have t52 : decide (k < n) = false := decide_eq_false hlt
              clear hp hI hLk hel hsm2 hrd hrs hps
              go_wp2_with fail
              go_ret2
              exact ⟨_, by rw [HF.out]; rfl, hwr, by rw [HR.out]; exact hO.sub (fun j _ hj => Nat.lt_of_lt_of_le hj hwS.size)⟩
end Go.Proofs.YtjiaidchcldocaaGreatDoor
namespace Go.Proofs.YtjiaidchcldocaaGreatDoor
open Go.RowKit

theorem packed_fault {t : List UInt8} {p : List (List Change)} (h : packF t p = 0) : ∀ x ∈ packL t p, mailFault x = 0 := fun x hx => by
  have := (packed_mem h x hx).1
  unfold pieceF at this
  by_cases e : mailFault x = 0
  · exact e
  · rw [if_pos e] at this; exact this
/-- a box of what was packed, in whatever order, is read so -/
theorem posted_box {t : List UInt8} {p : List (List Change)} (h : packF t p = 0) {L : List Mail} (hp : List.Perm L (packL t p)) : boxFault L = 0 ∧ boxR L = toB (boxText L) ∧ (boxText L).length ≤ 1000000 ∧ openR (toB (boxText L)) = L ∧ openF (toB (boxText L)) = 0 := by
  have hl : L.length ≤ 9 := by have := (packF_ok h).1; rw [hp.length_eq, packed_len]; omega
  have hf : ∀ x ∈ L, mailFault x = 0 := fun x hx => packed_fault h x (hp.mem_iff.1 hx)
  have hb : boxFault L = 0 := by
    unfold boxFault
    rw [if_neg (by omega), firstOf_zero]
    exact hf
  have hq : parseBox (toB (boxText L)).data.toList = some L := by rw [toB_data]; exact box_back (by omega) hf
  obtain ⟨o1, o2⟩ := open_some hq
  have := boxText_len hf
  exact ⟨hb, if_pos hb, by omega, o1, o2⟩
theorem found_runs {n : Int} {t : List (List File)} (h : foundF n t = 0) {x : List File} (hx : t[0]? = some x) : ∀ k, k ≤ (foundL n t).length → ∃ y, t[k]? = some y ∧ runGoS x ((foundL n t).take k) = (y, 0)
  | 0, _ => ⟨x, hx, rfl⟩
  | k + 1, hk => by
    obtain ⟨y, hy, hr⟩ := found_runs h hx k (by omega)
    have hl := found_len n t
    obtain ⟨z, hz⟩ : ∃ z, t[k + 1]? = some z := ⟨t[k + 1]'(by omega), List.getElem?_eq_getElem (by omega)⟩
    obtain ⟨f1, _, _, _, _, _, f2, _⟩ := found_leads h hy hz (by omega)
    refine ⟨z, hz, ?_⟩
    rw [List.take_add_one, f1, Option.toList_some, runGo_app _ _ _ _ hr, runGoS, f2, if_pos rfl, runGoS]
theorem posted_run {n : Int} {t : List (List File)} (h : foundF n t = 0) {x : List File} (hx : t[0]? = some x) (hc : (treeFault x).2 = 0) {ti : List UInt8} {L : List Mail} (ho : openMs L = (ti, foundL n t, 0)) : runF x L = 0 ∧ runR x L = lastOf t := by
  obtain ⟨y, hy, hr⟩ := found_runs h hx _ (Nat.le_refl _)
  rw [last_get (by have := (List.getElem?_eq_some_iff.1 hx).1; omega)] at hy
  injection hy with hy
  rw [List.take_length] at hr
  have hf : runF x L = 0 := by
    unfold runF
    rw [if_neg (by rw [hc]; simp), ho, if_neg (by simp), hr]
  refine ⟨hf, ?_⟩
  unfold runR
  rw [if_pos hf, ho, hr, hy]
theorem posted_bad {x : List File} (hc : (treeFault x).2 ≠ 0) (L : List Mail) : runF x L ≠ 0 := by
  unfold runF
  rw [if_pos hc]
  exact hc
set_option maxHeartbeats 1000000 in
set_option maxRecDepth 100000 in
theorem law_topPosted (t : List (List File)) (n : Int) (ti : ByteArray) (ord : List Int) (vt vo : Value) (w : World) (ht : Rdv w Never vt t) (hn : I64 n) (hti : ti.size ≤ 1048576) (ho : Rdv w Never vo ord) (m : Int) (hm : w.cell? ⟨1, 0, none⟩ = some (.int .i64 m)) (hg : Globs w m) :
    Calls Tryz.prog 9 #[vt, .int .i64 n, .string ti, vo] w fun e w' => e = .returned (.bool true) ∧ Chg Never w w' := by
  obtain ⟨a, cap, rfl, h1, h2, h3⟩ := rdv_slice ht
  obtain ⟨oa, ocap, rfl, o1, o2, o3⟩ := rdv_slice ho
  unfold maxLen at h2 o2
  go_enter Tryz.func9, Tryz.ntmps9
  go_wp2_with fail
  refine (top_one _ m hg).mono ?_
  rintro e w1 ⟨rfl, hw⟩
  go_wp2_with fail
  refine (top_found t n _ _ (ht.never hw) hn m (hw.cellNever hm)).mono ?_
  rintro e w2 ⟨rp, rfl, hc2, hrp⟩
  have hw := hw.trans hc2
  clear hc2
  by_cases hz : foundF n t = 0
  · rw [show (foundF n t == 0) = true by rw [hz]; rfl]
    rw [show foundR n t = foundL n t from if_pos hz] at hrp
    by_cases h0 : t.length = 0
    · have t0 : ((t.length : Int) == 0) = true := by rw [h0]; rfl
      have t1 : ((t.length : Int) != 0) = false := by rw [h0]; rfl
      clear h0 hz h3 ht hrp
      go_wp2_with fail
      go_ret
      exact ⟨rfl, hw⟩
    · have t0 : ((t.length : Int) == 0) = false := by rw [beq_eq_false_iff_ne]; omega
      have t1 : ((t.length : Int) != 0) = true := by rw [bne, t0]; rfl
      have hpos : (0 : Int) < (t.length : Int) := by omega
      have hposN : 0 < t.length := by omega
      obtain ⟨x0, hx0⟩ : ∃ x, t[0]? = some x := ⟨t[0]'(by omega), List.getElem?_eq_getElem (by omega)⟩
      have HRUN := Lib.hid (fun (hc : (treeFault x0).2 = 0) (tl : List UInt8) (L : List Mail) (ho : openMs L = (tl, foundL n t, 0)) => posted_run hz hx0 hc ho)
      generalize foundL n t = p at hrp HRUN
      obtain ⟨pa, pc, rfl, p1, p2, p3⟩ := rdv_slice hrp
      clear hz h0 p3
      go_wp2_with fail
      refine (pack_any ti p _ _ hrp (by omega) m (hg.never hw).ml).mono ?_
      rintro e w3 ⟨r3, rfl, hc3, hr3⟩
      have hw := hw.trans hc3
      clear hc3 hrp
      by_cases hpf : packF ti.data.toList p = 0
      · rw [show packR ti.data.toList p = packL ti.data.toList p from if_pos hpf] at hr3
        have hll := packed_len ti.data.toList p
        have h8 := (packF_ok hpf).1
        have HB := Lib.hid (fun (L : List Mail) (q : List.Perm L (packL ti.data.toList p)) => posted_box hpf q)
        have HO := Lib.hid (fun (L : List Mail) (q : List.Perm L (packL ti.data.toList p)) => openMs_perm hpf q)
        rw [hpf, errV_zero]
        generalize packL ti.data.toList p = l at hr3 hll HB HO
        have hl9 : l.length ≤ 9 := by omega
        have hl0 : 0 < l.length := by omega
        obtain ⟨la0, lc0, rfl, _, _, _⟩ := rdv_slice hr3
        have hn0 := ownN_nil (α := Mail) 31 (Chg.refl Never w3)
        have hle : ([] : List Mail).length + l.length ≤ 1000000000 := by simp; omega
        clear hpf hll
        go_wp2_with (at_builtin; refine wpList_many2 (by rfl) _ _ 24 (by rfl) elemOk_mail (O := Never) (l := []) (m := l) (by rfl) (by rfl) hn0.own (hn0.away hr3) (fun _ h => h.elim) hle ?_; intro v1 w1 hw1 hd1 hk1; have hn1 := hn0.step hw1 hd1 hk1; clear hw1 hd1 hk1 hn0; obtain ⟨s1, n1, c1, rfl⟩ := own_isSlice hn1.own)
        rw [List.nil_append] at hn1
        have hcw := hw.trans hn1.chg
        have hr1 := hn1.own.rdv
        clear hn1 hr3 hw hle
        go_loopw [14, 15] (fun ov iv wr => ∃ (k : Nat) (L : List Mail), k ≤ ord.length ∧ k ≤ 10 ∧ iv = .int .i64 k ∧ Chg Never w wr ∧ Rdv wr Never ov L ∧ Hid (List.Perm L l)) (fun _ iv _ => 10 - (intOf iv).toNat)
        case atStart => exact ⟨0, l, Nat.zero_le _, Nat.zero_le _, rfl, hcw, hr1, List.Perm.refl _⟩
        case round =>
          clear hcw hr1
          obtain ⟨k, L, hk, hk20, rfl, hc, hL, hp⟩ := hrel
          rename World => wr
          obtain ⟨la, lc, rfl, l1, l2, l3⟩ := rdv_slice hL
          have hL9 : L.length ≤ 1000000 := by have := hp.out.length_eq; omega
          have h0 : 0 < L.length := by have := hp.out.length_eq; omega
          by_cases hlt : k < ord.length ∧ k < 10
          · have t1 : decide ((k : Int) < (ord.length : Int)) = true := decide_eq_true (by omega)
            have t1n : decide (k < ord.length) = true := decide_eq_true (by omega)
            have t2 : decide ((k : Int) < 10) = true := decide_eq_true (by omega)
            have hk10 : k + 1 ≤ ord.length ∧ k + 1 ≤ 10 := by omega
            obtain ⟨c, hx⟩ : ∃ c, ord[k]? = some c := ⟨ord[k]'(by omega), List.getElem?_eq_getElem (by omega)⟩
            obtain ⟨ob, oo, rfl, -, co, hci⟩ := elems_ints o3 hx
            have co := hc.cellNever co
            have p1 : (k : Int) < (ord.length : Int) := by omega
            clear hx o3
            go_wp2_with fail
            refine (pick_any c L.length _ hci h0 (by omega)).mono ?_
            rintro e w2 ⟨j, hj, rfl, rfl⟩
            rename World => wr
            obtain ⟨x, hx⟩ : ∃ x, L[j]? = some x := ⟨L[j]'(by omega), List.getElem?_eq_getElem (by omega)⟩
            obtain ⟨b, off, bv, rfl, _, _, c0, c1, c2, c3, z0, z1, z2, hv⟩ := elems_mail l3 hx
            obtain ⟨ba, bc, rfl, _, _, _⟩ := rdv_slice hv
            have hA : Chg Never wr (wr.alloc (.cells #[.string x.sender, .string x.subject, .string x.ident, .slice ba x.body.length bc] 31)) := (Chg.refl Never wr).alloc _
            obtain ⟨_, g0, g1, g2, g3⟩ := box1_mail wr 31 x.sender x.subject x.ident (.slice ba x.body.length bc) _ rfl
            have HP := Lib.hid ((move_perm hx).trans hp.out)
            have jlt : (j : Int) < (L.length : Int) := by omega
            have sN : IntKind.i64.wrap ((j : Int) + 1) = (j : Int) + 1 := IntWalk.i64_in _ (by omega)
            obtain ⟨sb1, u0, u1, hrunH, hsub1⟩ := slice_gen (P := Tryz.prog) (t := 24) (by kernel_rfl) size_mail (hL.never hA) 0 j (Nat.zero_le _) (by omega)
            have hrunH := fun (wx : World) => hrunH j wx rfl rfl
            clear u0 u1
            rw [Nat.sub_zero, Nat.sub_zero] at hrunH hsub1
            rw [List.drop_zero] at hsub1
            obtain ⟨sb2, u0, hrunL, u1, hsub2⟩ := slice_gen (P := Tryz.prog) (t := 24) (by kernel_rfl) size_mail (hL.never hA) (j + 1) L.length (by omega) (Nat.le_refl _)
            have hrunL := fun (wx : World) => hrunL ((j : Int) + 1) wx (by push_cast; rfl) rfl
            clear u0 u1
            rw [List.take_of_length_le (by rw [List.length_drop]; omega)] at hsub2
            have hvA := hv.never hA
            have hn := ownN_nil (α := Mail) 31 (Chg.refl Never (wr.alloc (.cells #[.string x.sender, .string x.subject, .string x.ident, .slice ba x.body.length bc] 31)))
            have hle1 : ([] : List Mail).length + (L.take j).length ≤ 1000000000 := by simp; omega
            have hle2 : (L.take j).length + (L.drop (j + 1)).length ≤ 1000000000 := by simp; omega
            have hle3 : (L.take j ++ L.drop (j + 1)).length ≤ 1000000000 := by simp; omega
            have hcA := hc.trans hA
            have hsub1 := hn.away hsub1
            obtain ⟨T, hT⟩ : ∃ T, L.take j = T := ⟨_, rfl⟩
            obtain ⟨D, hD⟩ : ∃ D, L.drop (j + 1) = D := ⟨_, rfl⟩
            rw [hT] at hsub1 hle1 hle2 hle3 HP
            rw [hD] at hsub2 hle2 hle3 HP
            have G0 := Lib.hid g0
            have G1 := Lib.hid g1
            have G2 := Lib.hid g2
            have G3 := Lib.hid g3
            clear l3 hx hv hL hp hT hD hc hA g0 g1 g2 g3
            go_wp2_with (first
              | (at_builtin; refine wpList_many2 (by rfl) _ _ 24 (by rfl) elemOk_mail (O := Never) (l := []) (m := T) (by rfl) (by rfl) hn.own hsub1 (fun _ h => h.elim) hle1 ?_; intro v1 w1 hw1 hd1 hk1; have hn1 := hn.step hw1 hd1 hk1; rw [List.nil_append] at hn1; have hs2 := hn1.away hsub2; clear hw1 hd1 hk1 hn hsub1 hsub2; obtain ⟨s1, n1, c1, rfl⟩ := own_isSlice hn1.own)
              | (at_builtin; refine wpList_many2 (by rfl) _ _ 24 (by rfl) elemOk_mail (O := Never) (l := T) (m := D) (by rfl) (by rfl) hn1.own hs2 (fun _ h => h.elim) hle2 ?_; intro v2 w2 hw2 hd2 hk2; have hn2 := hn1.step hw2 hd2 hk2; clear hw2 hd2 hk2 hn1 hs2; obtain ⟨s2, n2, c2, rfl⟩ := own_isSlice hn2.own; have g0 := hn2.chg.cellNever G0.out; have g1 := hn2.chg.cellNever G1.out; have g2 := hn2.chg.cellNever G2.out; have g3 := hn2.chg.cellNever G3.out; have hy : Dat.rd w2 (fun k => Never k ∨ (Value.slice s2 n2 c2).ownBlock = some k) [.string x.sender, .string x.subject, .string x.ident, .slice ba x.body.length bc] x := ⟨_, rfl, z0, z1, z2, hn2.away hvA⟩)
              | (at_builtin; refine wpList_push (by rfl) _ _ 24 (by rfl) elemOk_mail (O := Never) (l := T ++ D) (y := x) (by rfl) (by rfl) (by rfl) hn2.own hy (fun _ h => h.elim) hle3 ?_; intro v3 w3 hown3 hc3 hk3; have hn3 := hn2.step1 hown3 hc3 hk3; clear hown3 hc3 hk3 hy hn2 g0 g1 g2 g3; obtain ⟨s3, n3, c3', rfl⟩ := own_isSlice hn3.own))
            have hcf := hcA.trans hn3.chg
            have hrf := hn3.own.rdv
            clear hn3 hcA G0 G1 G2 G3 hvA
            go_roundw
            case rel => exact ⟨k + 1, _, hk10.1, hk10.2, by go_num, hcf, hrf, HP⟩
            case measure => simp [intOf] <;> omega
          · have hHB := HB.out L hp.out
            have HBB := Lib.hid hHB
            have HOO := Lib.hid (HO.out L hp.out)
            have hL9' : L.length ≤ 1000000000 := by omega
            clear HB HO hHB l3 o3 hp h0
            by_cases hl : k < ord.length
            · have t1 : decide ((k : Int) < (ord.length : Int)) = true := decide_eq_true (by omega)
              have t1n : decide (k < ord.length) = true := decide_eq_true (by omega)
              have t2 : decide ((k : Int) < 10) = false := decide_eq_false (by omega)
              go_wp2_with fail
              refine (box_any L _ _ hL).mono ?_
              rintro e wB ⟨rfl, hcB⟩
              have hw := hc.trans hcB
              rw [HBB.out.1, errV_zero, HBB.out.2.1]
              clear hcB hL
              go_wp2_with fail
              refine (open_any (toB (boxText L)) _ (by rw [toB_size']; have := HBB.out.2.2.1; omega) m (hw.cellNever hm)).mono ?_
              rintro e wO ⟨rO, rfl, hcO, hrO⟩
              have hw := hw.trans hcO
              rw [HBB.out.2.2.2.2, errV_zero]
              rw [HBB.out.2.2.2.1] at hrO
              clear hcO
              obtain ⟨ma, mc, rfl, _, _, _⟩ := rdv_slice hrO
              have hmo : Rdv wO Never (.slice ma L.length mc) L := hrO.sub (fun _ _ q => q.elim)
              obtain ⟨b, off, xv, rfl, _, _, d0, hxv⟩ := elems_row h3 hx0
              obtain ⟨xa, xc, rfl, _, _, _⟩ := rdv_slice hxv
              simp only [Nat.add_zero] at d0
              have D0 := Lib.hid d0
              have d0 := hw.cellNever D0.out
              have hxO := hxv.never hw
              have htO := ht.never hw
              clear hrO h3
              go_wp2_with fail
              refine (tree_check_any x0 _ _ hxO m (hw.cellNever hm)).mono ?_
              rintro e wC ⟨rfl, hcC⟩
              have hw := hw.trans hcC
              have hxC := hxO.never hcC
              have hmC := hmo.never hcC
              have htC := htO.never hcC
              clear d0 hxO hmo htO hcC
              have d0 := hw.cellNever D0.out
              generalize (treeFault x0).1 = tfi
              go_wp2_with fail
              refine (srun_any x0 L _ _ _ hxC hmC hL9' m (hg.never hw)).mono ?_
              rintro e wR ⟨rR, rfl, hcR, hrR⟩
              have hw := hw.trans hcR
              have htR := htC.never hcR
              clear hxC hmC htC hcR d0
              by_cases hck : (treeFault x0).2 = 0
              · obtain ⟨u1, u2⟩ := HRUN.out hck _ L HOO.out
                rw [hck, errV_zero, u1, errV_zero]
                rw [u2] at hrR
                obtain ⟨ra, rc, rfl, _, _, _⟩ := rdv_slice hrR
                clear u1 u2 hck HRUN HOO HBB
                go_wp2_with fail
                refine (top_last t _ _ htR hposN).mono ?_
                rintro e wS ⟨rS, rfl, rfl, hrS⟩
                rename World => wS
                generalize lastOf t = z at hrR hrS ⊢
                obtain ⟨sa, sc, rfl, _, _, _⟩ := rdv_slice hrS
                go_wp2_with fail
                refine (trees_any z z _ _ _ hrR hrS).mono ?_
                rintro e wT ⟨rfl, hcT⟩
                rw [decide_eq_true rfl]
                go_wp2_with fail
                go_ret
                exact ⟨rfl, hw.trans hcT⟩
              · have u1 := posted_bad hck L
                rw [errV_pos hck, errV_pos u1]
                obtain ⟨ra, rc, rfl, _, _, _⟩ := rdv_slice hrR
                generalize (runR x0 L).length = nr
                clear hck u1 hrR HRUN HOO HBB
                go_wp2_with fail
                go_ret
                exact ⟨rfl, hw⟩
            · have t1 : decide ((k : Int) < (ord.length : Int)) = false := decide_eq_false (by omega)
              have t1n : decide (k < ord.length) = false := decide_eq_false (by omega)
              go_wp2_with fail
              refine (box_any L _ _ hL).mono ?_
              rintro e wB ⟨rfl, hcB⟩
              have hw := hc.trans hcB
              rw [HBB.out.1, errV_zero, HBB.out.2.1]
              clear hcB hL
              go_wp2_with fail
              refine (open_any (toB (boxText L)) _ (by rw [toB_size']; have := HBB.out.2.2.1; omega) m (hw.cellNever hm)).mono ?_
              rintro e wO ⟨rO, rfl, hcO, hrO⟩
              have hw := hw.trans hcO
              rw [HBB.out.2.2.2.2, errV_zero]
              rw [HBB.out.2.2.2.1] at hrO
              clear hcO
              obtain ⟨ma, mc, rfl, _, _, _⟩ := rdv_slice hrO
              have hmo : Rdv wO Never (.slice ma L.length mc) L := hrO.sub (fun _ _ q => q.elim)
              obtain ⟨b, off, xv, rfl, _, _, d0, hxv⟩ := elems_row h3 hx0
              obtain ⟨xa, xc, rfl, _, _, _⟩ := rdv_slice hxv
              simp only [Nat.add_zero] at d0
              have D0 := Lib.hid d0
              have d0 := hw.cellNever D0.out
              have hxO := hxv.never hw
              have htO := ht.never hw
              clear hrO h3
              go_wp2_with fail
              refine (tree_check_any x0 _ _ hxO m (hw.cellNever hm)).mono ?_
              rintro e wC ⟨rfl, hcC⟩
              have hw := hw.trans hcC
              have hxC := hxO.never hcC
              have hmC := hmo.never hcC
              have htC := htO.never hcC
              clear d0 hxO hmo htO hcC
              have d0 := hw.cellNever D0.out
              generalize (treeFault x0).1 = tfi
              go_wp2_with fail
              refine (srun_any x0 L _ _ _ hxC hmC hL9' m (hg.never hw)).mono ?_
              rintro e wR ⟨rR, rfl, hcR, hrR⟩
              have hw := hw.trans hcR
              have htR := htC.never hcR
              clear hxC hmC htC hcR d0
              by_cases hck : (treeFault x0).2 = 0
              · obtain ⟨u1, u2⟩ := HRUN.out hck _ L HOO.out
                rw [hck, errV_zero, u1, errV_zero]
                rw [u2] at hrR
                obtain ⟨ra, rc, rfl, _, _, _⟩ := rdv_slice hrR
                clear u1 u2 hck HRUN HOO HBB
                go_wp2_with fail
                refine (top_last t _ _ htR hposN).mono ?_
                rintro e wS ⟨rS, rfl, rfl, hrS⟩
                rename World => wS
                generalize lastOf t = z at hrR hrS ⊢
                obtain ⟨sa, sc, rfl, _, _, _⟩ := rdv_slice hrS
                go_wp2_with fail
                refine (trees_any z z _ _ _ hrR hrS).mono ?_
                rintro e wT ⟨rfl, hcT⟩
                rw [decide_eq_true rfl]
                go_wp2_with fail
                go_ret
                exact ⟨rfl, hw.trans hcT⟩
              · have u1 := posted_bad hck L
                rw [errV_pos hck, errV_pos u1]
                obtain ⟨ra, rc, rfl, _, _, _⟩ := rdv_slice hrR
                generalize (runR x0 L).length = nr
                clear hck u1 hrR HRUN HOO HBB
                go_wp2_with fail
                go_ret
                exact ⟨rfl, hw⟩
      · rw [errV_pos hpf]
        obtain ⟨qa, qc, rfl, _, _, _⟩ := rdv_slice hr3
        generalize (packR ti.data.toList p).length = nn
        clear hpf hr3
        go_wp2_with fail
        go_ret
        exact ⟨rfl, hw⟩
  · rw [show (foundF n t == 0) = false by rw [beq_eq_false_iff_ne]; exact hz]
    obtain ⟨pa, pc, rfl, _, _, _⟩ := rdv_slice hrp
    clear hz hrp
    go_wp2_with fail
    go_ret
    exact ⟨rfl, hw⟩
end Go.Proofs.YtjiaidchcldocaaGreatDoor
