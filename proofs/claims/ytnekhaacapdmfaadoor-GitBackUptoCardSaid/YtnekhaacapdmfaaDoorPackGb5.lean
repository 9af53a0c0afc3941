/-
  PARTS: THE WALKS of unified.Reader's Open and mark.; THE WALK of unified.Reader's Line.; THE WALK of the document's Parts (a text of its own: no function of layers 1 to 9 in it).; HUNKS DONE STRICTLY, plain laws: what Strict answers; hunks that lead from a file to another one; turned they lead back.; THE WALKS of hunk.Cut, Turned, Turn.; append OF A WHOLE SLICE to one of the call's own; a slice's slice. No program in sight.; THE WALKS OF LAYER 4: hunk.Make, sides, slices.Equal, stands.; THE WALKS OF LAYER 4: slices.Grow of nil, slices.Concat.; THE WALK of apply.Strict.; THE WALKS of the document's NewOf, OldOf.; THE WALKS of the document's LineFault, LinesFault, ScriptFault.
-/
import Derived.Test.YtnekhaacapdmfaaDoorPackGb4
import Derived.Deep.RegionHeld3
import Derived.Deep.Cut
import Derived.Test.YtnekhaacapdmfaaDoorPackGb1
import Derived.Test.YtnekhaacapdmfaaDoorPackGb2
import Derived.WalkLawsBesides
import Derived.Lib.Walk
import Derived.Lib.SliceRun
import Derived.Lib.AppendZerosOnto
namespace Go.Proofs.YtnekhaacapdmfaaDoor
open Go.RowKit

def opnB (o n : Nat) : Bool := decide (0 < o) || decide (0 < n)
theorem opn_true {o n : Nat} (h : 0 < o ∨ 0 < n) : opnB o n = true := by unfold opnB; simpa using h
theorem opn_false {o n : Nat} (h : ¬ (0 < o ∨ 0 < n)) : opnB o n = false := by
  unfold opnB
  rw [decide_eq_false (by omega), decide_eq_false (by omega)]; rfl
set_option maxHeartbeats 1000000 in
theorem rd_open (B : Nat) (v : Value) (o n : Nat) (w : World) (h : Blk3 w B 107 v (.int .i64 o) (.int .i64 n)) :
    Calls Tryd.prog 60 #[.pointer (some ⟨B, 0, none⟩)] w fun e w' => e = .returned (.bool (opnB o n)) ∧ w' = w := by
  obtain ⟨c0, c1, c2⟩ := h.cell
  by_cases ho : 0 < o
  · have HB := Lib.hid (opn_true (o := o) (n := n) (.inl ho))
    have t1 : decide ((0 : Int) < (o : Int)) = true := decide_eq_true (by omega)
    have t1n : decide (0 < o) = true := decide_eq_true ho
    go_enter Tryd.func60, Tryd.ntmps60
    go_wp2_with fail
    go_ret
    exact ⟨by rw [HB.out]; rfl, rfl⟩
  · have t1 : decide ((0 : Int) < (o : Int)) = false := decide_eq_false (by omega)
    have t1n : decide (0 < o) = false := decide_eq_false ho
    by_cases hn : 0 < n
    · have HB := Lib.hid (opn_true (o := o) (n := n) (.inr hn))
      have t2 : decide ((0 : Int) < (n : Int)) = true := decide_eq_true (by omega)
      have t2n : decide (0 < n) = true := decide_eq_true hn
      go_enter Tryd.func60, Tryd.ntmps60
      go_wp2_with fail
      go_ret
      exact ⟨by rw [HB.out]; rfl, rfl⟩
    · have HB := Lib.hid (opn_false (o := o) (n := n) (by omega))
      have t2 : decide ((0 : Int) < (n : Int)) = false := decide_eq_false (by omega)
      have t2n : decide (0 < n) = false := decide_eq_false hn
      go_enter Tryd.func60, Tryd.ntmps60
      go_wp2_with fail
      go_ret
      exact ⟨by rw [HB.out]; rfl, rfl⟩
/-- what a line's reading leaves -/
def LinePost (W0 B : Nat) (hs : List Hunk) (o n : Nat) (s : List UInt8) (w : World) (e : Ending) (w' : World) : Prop :=
  Chg (From W0) w w' ∧ match readLine hs o n s with
  | none => e = .returned (.bool false)
  | some (hs', o', n') => e = .returned (.bool true) ∧ ∃ v', RdrAt w' W0 B v' hs' o' n'
theorem linePost_no {W0 B o n : Nat} {hs : List Hunk} {s : List UInt8} {w w' : World} {e : Ending} (hr : readLine hs o n s = none) (he : e = .returned (.bool false)) (hc : Chg (From W0) w w') : LinePost W0 B hs o n s w e w' :=
  ⟨hc, by rw [hr]; exact he⟩
theorem linePost_yes {W0 B o n o' n' : Nat} {hs hs' : List Hunk} {s : List UInt8} {w w' : World} {e : Ending} (hr : readLine hs o n s = some (hs', o', n')) (he : e = .returned (.bool true)) (hc : Chg (From W0) w w') (hR : ∃ v', RdrAt w' W0 B v' hs' o' n') : LinePost W0 B hs o n s w e w' :=
  ⟨hc, by rw [hr]; exact ⟨he, hR⟩⟩
theorem rl_nil {hs : List Hunk} {o n : Nat} (h : 0 < o ∨ 0 < n) : readLine hs o n [] = none := by unfold readLine; rw [if_pos h]
theorem rl_cons {hs : List Hunk} {o n : Nat} (h : 0 < o ∨ 0 < n) (c : UInt8) (r : List UInt8) : readLine hs o n (c :: r) = if c = 32 ∧ 0 < o ∧ 0 < n then some (addMark hs ⟨32, toB r⟩, o - 1, n - 1)
      else if c = 45 ∧ 0 < o then some (addMark hs ⟨45, toB r⟩, o - 1, n)
      else if c = 43 ∧ 0 < n then some (addMark hs ⟨43, toB r⟩, o, n - 1) else none := by unfold readLine; rw [if_pos h]
theorem byte_ne_int {c d : UInt8} {k : Int} (h : c ≠ d) (hd : (d.toNat : Int) = k) : ((c.toNat : Int) == k) = false := by
  simp only [beq_eq_false_iff_ne, ne_eq]
  intro e
  exact h (UInt8.toNat_inj.1 (by omega))

set_option maxHeartbeats 2000000 in
set_option maxRecDepth 100000 in
theorem reader_mark (W0 B : Nat) (v : Value) (hs : List Hunk) (o n : Nat) (s : ByteArray) (w : World) (h : RdrAt w W0 B v hs o n) (hopen : 0 < o ∨ 0 < n) (hne : hs ≠ []) (hs1 : s.size ≤ 1000000000) (hon : o ≤ 1000000 ∧ n ≤ 1000000)
    (hb : hs.length ≤ 1000000) (hml : ∀ h ∈ hs, h.marks.length ≤ 1000000) :
    Calls Tryd.prog 81 #[.pointer (some ⟨B, 0, none⟩), .string s] w (LinePost W0 B hs o n s.data.toList w) := by
  cases hsl : s.data.toList with
  | nil =>
    have HR := Lib.hid (rl_nil (hs := hs) hopen)
    have t1 : (s.toList == []) = true := by rw [Lib.toList_data, hsl]; rfl
    have t2 : s.toList.isEmpty = true := by rw [Lib.toList_data, hsl]; rfl
    have hsz : s.size = 0 := by rw [Lib.size_eq, hsl]; rfl
    clear hsl hopen hne hml
    go_enter Tryd.func81, Tryd.ntmps81
    go_wp2_with fail
    go_ret
    exact linePost_no HR.out rfl (Chg.refl _ _)
  | cons c r =>
    obtain ⟨init, q, mv, xs, rfl, hlast⟩ : ∃ init q mv xs, hs = init ++ [q] ∧ OwnLast 46 100 w (RdO W0 B) v init q mv xs := by
      rcases h.rows with ⟨q, _⟩ | q
      · exact absurd q hne
      · exact q
    have hbox := h.box
    have hbase := h.base
    have hqm := hml q (by simp)
    have hil : init.length ≤ 1000000 := by rw [List.length_append] at hb; omega
    obtain ⟨g, gcap, rfl, hg1, hg2, hg3, hg4, m2, m0, m1, hfr⟩ := hlast.shape
    have HR := Lib.hid (rl_cons (hs := init ++ [q]) hopen c r)
    have t1 : (s.toList == []) = false := by rw [Lib.toList_data, hsl]; rfl
    have t2 : s.toList.isEmpty = false := by rw [Lib.toList_data, hsl]; rfl
    have hpos : 0 < s.size := by rw [Lib.size_eq, hsl]; simp
    have hc0 : s[0]'hpos = c := by
      have : s.data.toList[0]? = some (s[0]'hpos) := by rw [Array.getElem?_toList, Array.getElem?_eq_getElem hpos]; rfl
      rw [hsl] at this
      injection this with this
      exact this.symm
    have hsx : ∀ wx, (Instr.index 9 (.string s) (.int .i64 0)).run Tryd.prog wx = .ok (.int .u8 c.toNat) wx := fun wx => by
      rw [run_index_string _ _ _ _ _ Tryd.underlying9, dif_pos ⟨by omega, by omega⟩]
      simp only [Int.toNat_zero, hc0]
    have htx : (s.extract 1 s.size) = toB r := by
      apply ByteArray.ext
      apply Array.toList_inj.1
      rw [Lib.extract_data, hsl, toB_data, List.take_of_length_le (by rw [List.length_drop, Lib.size_eq, hsl]; simp)]
      rfl
    have h1s : (1 : Int) ≤ (s.size : Int) := by omega
    have htz : (toB r).size ≤ maxLen := by rw [toB_size', ]; have := Lib.size_eq s; rw [hsl] at this; simp at this; unfold maxLen; omega
    obtain ⟨tx, htxe⟩ : ∃ tx, toB r = tx := ⟨_, rfl⟩
    rw [htxe] at htx htz HR
    clear hsl hne hml hb hc0 htxe h
    go_enter Tryd.func81, Tryd.ntmps81
    go_wp2_with fail
    refine wp_region_held_drew (S := fun w' => Chg Never w w') (by kernel_rfl) (Chg.refl Never w).drew (fun hH => ?_)
    refine' wpAnyH_take (i := 0) ?hi0 (by kernel_rfl) (by kernel_rfl) (by kernel_rfl) ?hQ0 (Or.inl ⟨?hw0, ?hy0⟩) (by assumption) ?_
    case hi0 => (simp only [List.getElem?_toArray, List.getElem?_cons_succ, List.getElem?_cons_zero]; rfl)
    case hQ0 => exact fun _ _ _ h => h
    case hw0 => rfl
    case hy0 => (intro w' hSw; (try dsimp only at hSw); go_simp; all_goals with_reducible rfl)
    try simp only [Act.put, List.setIfInBounds_toArray, List.set_cons_zero, List.set_cons_succ]
    refine' wpAnyH_take (i := 1) ?hi1 (by kernel_rfl) (by kernel_rfl) (by kernel_rfl) ?hQ1 (Or.inl ⟨?hw1, ?hy1⟩) (by assumption) ?_
    case hi1 => (simp only [List.getElem?_toArray, List.getElem?_cons_succ, List.getElem?_cons_zero]; rfl)
    case hQ1 => exact fun _ _ _ h => h
    case hw1 => rfl
    case hy1 => (intro w' hSw; (try dsimp only at hSw); go_simp; all_goals with_reducible rfl)
    try simp only [Act.put, List.setIfInBounds_toArray, List.set_cons_zero, List.set_cons_succ]
    refine' wpAnyH_take (i := 2) ?hi2 (by kernel_rfl) (by kernel_rfl) (by kernel_rfl) ?hQ2 (Or.inl ⟨?hw2, ?hy2⟩) (by assumption) ?_
    case hi2 => (simp only [List.getElem?_toArray, List.getElem?_cons_succ, List.getElem?_cons_zero]; rfl)
    case hQ2 => exact fun _ _ _ h => h
    case hw2 => rfl
    case hy2 => (intro w' hSw; (try dsimp only at hSw); go_simp; all_goals with_reducible rfl)
    try simp only [Act.put, List.setIfInBounds_toArray, List.set_cons_zero, List.set_cons_succ]
    refine' wpAnyH_take (i := 3) ?hi3 (by kernel_rfl) (by kernel_rfl) (by kernel_rfl) ?hQ3 (Or.inl ⟨?hw3, ?hy3⟩) (by assumption) ?_
    case hi3 => (simp only [List.getElem?_toArray, List.getElem?_cons_succ, List.getElem?_cons_zero]; rfl)
    case hQ3 => exact fun _ _ _ h => h
    case hw3 => rfl
    case hy3 => (intro w' hSw; (try dsimp only at hSw); go_simp; all_goals with_reducible rfl)
    try simp only [Act.put, List.setIfInBounds_toArray, List.set_cons_zero, List.set_cons_succ]
    refine' wpAnyH_take (i := 4) ?hi4 (by kernel_rfl) (by kernel_rfl) (by kernel_rfl) ?hQ4 (Or.inl ⟨?hw4, ?hy4⟩) (by assumption) ?_
    case hi4 => (simp only [List.getElem?_toArray, List.getElem?_cons_succ, List.getElem?_cons_zero]; rfl)
    case hQ4 => exact fun _ _ _ h => h
    case hw4 => rfl
    case hy4 => (intro w' hSw; (try dsimp only at hSw); go_simp; all_goals with_reducible rfl)
    try simp only [Act.put, List.setIfInBounds_toArray, List.set_cons_zero, List.set_cons_succ]
    refine wpAnyH_ready (rs := [5]) (by kernel_rfl) (by simp) ?_
    refine AllReadyH.cons rfl (fun K hK => ?_) AllReadyH.nil
    go_simp
    refine hK.out _ _ ?_ (fun hH => ?_)
    · exact Chg.alloc (by assumption) _
    clear hK K
    try simp only [Act.put, List.setIfInBounds_toArray, List.set_cons_zero, List.set_cons_succ]
    refine wpAnyH_ready (rs := [6]) (by kernel_rfl) (by simp) ?_
    refine AllReadyH.cons rfl (fun K hK => ?_) AllReadyH.nil
    go_simp
    refine hK.out _ _ ?_ (fun hH => ?_)
    · exact ((Chg.refl Never w).alloc _).drew
    clear hK K
    try simp only [Act.put, List.setIfInBounds_toArray, List.set_cons_zero, List.set_cons_succ]
    refine wpAnyH_done (by kernel_rfl) ?_ _
    have hA : Chg Never w (w.alloc (.cells #[.int .u8 c.toNat, .string tx] 100)).drew := ((Chg.refl Never w).alloc _).drew
    have hxb := Blk2.new w 100 (.int .u8 c.toNat) (.string tx)
    have hxb : Blk2 (w.alloc (.cells #[.int .u8 c.toNat, .string tx] 100)).drew w.heap.size 100 (.int .u8 c.toNat) (.string tx) := hxb
    have hmlt := own_block_lt hlast.marks
    have hMne : w.heap.size ≠ B := by have := hbox.lt; omega
    have hMg : w.heap.size ≠ g := by omega
    have hbox := hbox.keep hA (fun h => h)
    have hlast := hlast.keep hA
    have hM1 : w.heap.size < (w.alloc (.cells #[.int .u8 c.toNat, .string tx] 100)).drew.heap.size := hxb.lt
    have hA2 := hA
    obtain ⟨M, hM⟩ : ∃ M, w.heap.size = M := ⟨_, rfl⟩
    generalize (w.alloc (.cells #[.int .u8 c.toNat, .string tx] 100)).drew = w1 at hA hA2 hxb hbox hlast hM1 ⊢
    have hmM : ∀ k, mv.ownBlock = some k → k < M := fun k hk => by rw [← hM]; exact hmlt k hk
    rw [hM] at hxb hMne hMg hM1 ⊢
    have HM := Lib.hid hM
    clear hM hmlt hA m2 m0 m1 hfr hg1 hsx
    obtain ⟨x0, x1⟩ := hxb.cell
    obtain ⟨c0, c1, c2⟩ := hbox.cell
    have hf1 := hbox.free 1
    have hf2 := hbox.free 2
    by_cases h32 : c = 32
    · have q32 : ((c.toNat : Int) == 32) = true := by rw [h32]; rfl
      have q45 : ((c.toNat : Int) == 45) = false := by rw [h32]; rfl
      have q43 : ((c.toNat : Int) == 43) = false := by rw [h32]; rfl
      by_cases ho : 0 < o
      · have to : decide ((0 : Int) < (o : Int)) = true := decide_eq_true (by omega)
        have ton : decide (0 < o) = true := decide_eq_true ho
        by_cases hn : 0 < n
        · have hr : Hid (readLine (init ++ [q]) o n (c :: r) = some (init ++ [⟨q.old, q.new, q.marks ++ [⟨(c.toNat : Int), tx⟩]⟩], o - 1, n - 1)) := by
            rw [Hid, HR.out, if_pos ⟨h32, ho, hn⟩, add_mark, h32]; rfl
          obtain ⟨o1, rfl⟩ : ∃ o1, o = o1 + 1 := ⟨o - 1, by omega⟩
          obtain ⟨n1, rfl⟩ : ∃ n1, n = n1 + 1 := ⟨n - 1, by omega⟩
          clear h32 ho hn to ton HR hopen
          have eo : (((o1 + 1 : Nat) : Int) - 1) = (o1 : Int) := by omega
          go_upto_region 12 with fail
          clear eo
          have hboxS : Blk3 ((w1.setCell ⟨B, 1, none⟩ (.int .i64 (o1 : Nat))).setCell ⟨B, 2, none⟩ (.int .i64 (n1 : Nat))) B 107 (.slice (some ⟨g, 0, none⟩) (init.length + 1) gcap) (.int .i64 (o1 : Nat)) (.int .i64 (n1 : Nat)) := (hbox.set1 _).set2 _
          have hS : Chg (fun k => k = B) w1 ((w1.setCell ⟨B, 1, none⟩ (.int .i64 (o1 : Nat))).setCell ⟨B, 2, none⟩ (.int .i64 (n1 : Nat))) := ((Chg.refl (fun k => k = B) w1).setCell (p := ⟨B, 1, none⟩) (.inr rfl) _).setCell (p := ⟨B, 2, none⟩) (.inr rfl) _
          have hlastS := hlast.keepO (O'' := RdO W0 B) hS (fun _ _ hk => .inr hk) (fun _ _ hk => hk)
          have x0 := hS.cell x0 hMne
          have x1 := hS.cell x1 hMne
          have hMS := Nat.lt_of_lt_of_le hM1 hS.size
          have hcS : Chg (From W0) w ((w1.setCell ⟨B, 1, none⟩ (.int .i64 (o1 : Nat))).setCell ⟨B, 2, none⟩ (.int .i64 (n1 : Nat))) := (hA2.mono (fun _ _ h => h.elim)).trans (hS.mono (fun k _ hk => by subst hk; exact hbase))
          clear hbox hlast hA2 hM1 hxb c0 c1 c2 hf1 hf2
          generalize (w1.setCell ⟨B, 1, none⟩ (.int .i64 (o1 : Nat))).setCell ⟨B, 2, none⟩ (.int .i64 (n1 : Nat)) = w2 at hboxS hS hlastS x0 x1 hMS hcS ⊢
          clear hS
          obtain ⟨g', gcap', hq, hg1, -, -, -, m2, m0, m1, hfr⟩ := hlastS.shape
          simp only [Value.slice.injEq, Option.some.injEq, Addr.mk.injEq, and_true, true_and] at hq
          obtain ⟨rfl, rfl⟩ := hq
          obtain ⟨c0, -, -⟩ := hboxS.cell
          have sw : IntKind.i64.wrap ((init.length : Int) + 1 - 1) = init.length := by rw [show (init.length : Int) + 1 - 1 = (init.length : Int) by omega]; exact IntWalk.i64_in _ (by omega)
          have sw2 : IntKind.i64.wrap (init.length : Int) = init.length := IntWalk.i64_in _ (by omega)
          have si : (init.length : Int) < (init.length : Int) + 1 := by omega
          go_quiet (fail)
          clear sw sw2 si c0
          have hq3 : Chg Never w2 (w2.drewN nq) := (Chg.refl Never w2).drewN nq
          have hlast3 := hlastS.keep hq3
          have hbox3 := hboxS.keep hq3 (fun h => h)
          have x0 : (w2.drewN nq).cell? ⟨M, 0, none⟩ = some (.int .u8 c.toNat) := x0
          have x1 : (w2.drewN nq).cell? ⟨M, 1, none⟩ = some (.string tx) := x1
          have m2 : (w2.drewN nq).cell? ⟨g, init.length * 3 + 2, none⟩ = some mv := m2
          have hfr : ∀ j, (w2.drewN nq).frozen? ⟨g, j, none⟩ = false := hfr
          have hg1 : g < (w2.drewN nq).heap.size := hg1
          have hc3 : Chg (From W0) w (w2.drewN nq) := hcS.trans (hq3.mono (fun _ _ h => h.elim))
          clear hlastS hboxS hq3 m0 m1 hcS
          generalize w2.drewN nq = w3 at hlast3 hbox3 x0 x1 m2 hfr hg1 hc3 ⊢
          go_wp2_with fail
          have hcd : Chg Never w3 w3.drew := (Chg.refl Never w3).drew
          have hmL := hlast3.keep hcd
          have hboxD := hbox3.keep hcd (fun h => h)
          have x0 : w3.drew.cell? ⟨M, 0, none⟩ = some (.int .u8 c.toNat) := x0
          have x1 : w3.drew.cell? ⟨M, 1, none⟩ = some (.string tx) := x1
          have m2 : w3.drew.cell? ⟨g, init.length * 3 + 2, none⟩ = some mv := m2
          have hfr : ∀ j, w3.drew.frozen? ⟨g, j, none⟩ = false := hfr
          have hg1 : g < w3.drew.heap.size := hg1
          have hcD : Chg (From W0) w w3.drew := hc3.trans (hcd.mono (fun _ _ h => h.elim))
          have hgM : ¬ OwnB mv g := by
            obtain ⟨_, _, qq, _⟩ := hmL.marks
            exact fun hh => qq g hh (.inr rfl)
          have hBM : ¬ OwnB mv B := by
            obtain ⟨_, _, qq, _⟩ := hmL.marks
            exact fun hh => qq B hh (.inl (.inr rfl))
          have hxM : ¬ OwnB mv M := fun hh => Nat.lt_irrefl _ (hmM M hh)
          have hgB : g ≠ B := fun e => hg2 (.inr e)
          have hgW : W0 ≤ g := by
            rcases Nat.lt_or_ge g W0 with h | h
            · exact absurd (.inl h) hg2
            · exact h
          have hmW : ∀ k, OwnB mv k → W0 ≤ k := fun k hk => by
            obtain ⟨_, _, qq, _⟩ := hmL.marks
            rcases Nat.lt_or_ge k W0 with h | h
            · exact absurd (.inl (.inl h)) (qq k hk)
            · exact h
          have hO : ∀ k, (RdO W0 B k ∨ (Value.slice (some ⟨g, 0, none⟩) (init.length + 1) gcap).ownBlock = some k) → k < w3.drew.heap.size := by
            have hBl := hboxD.lt
            rintro k ((h | rfl) | h)
            · omega
            · exact hBl
            · cases h; exact hg1
          have s0 : (0 : Int) ≤ (c.toNat : Int) := by omega
          have s1 : (c.toNat : Int) < 256 := by have := c.toNat_lt; omega
          have hlm : q.marks.length ≤ 1000000000 := by omega
          clear hlast3 hbox3 hcd hc3
          go_region_law ((refine step_push (by rfl) _ _ 44 (by rfl) elemOk_mark (O := fun k => RdO W0 B k ∨ (Value.slice (some ⟨g, 0, none⟩) (init.length + 1) gcap).ownBlock = some k) (l := q.marks) (y := ⟨(c.toNat : Int), tx⟩) (by rfl) (by rfl) (by simp) hmL.marks (rd_mark _ _ _ tx s0 s1 htz) hO hlm ?_; intro v' w5 hown2 hc2 hk2; obtain ⟨ad, nn, cc, rfl⟩ := own_slice hk2; have hfr5 : w5.frozen? ⟨g, init.length * 3 + 2, none⟩ = false := (hc2.frozen (p := ⟨g, init.length * 3 + 2, none⟩) hg1 hgM).trans (hfr _); have hcl5 : w5.cell? ⟨g, init.length * 3 + 2, none⟩ = some mv := hc2.cell (p := ⟨g, init.length * 3 + 2, none⟩) m2 hgM; have hb0 : w5.cell? ⟨M, 0, none⟩ = some (.int .u8 c.toNat) := hc2.cell (p := ⟨M, 0, none⟩) x0 hxM; have hb1 : w5.cell? ⟨M, 1, none⟩ = some (.string tx) := hc2.cell (p := ⟨M, 1, none⟩) x1 hxM))
          all_goals go_wp2_with fail
          all_goals
            have hst := OwnLast.stored hmL hown2 hc2 hk2
            have hbF := (hboxD.keep hc2 hBM).keep ((Chg.refl (fun k => k = g) w5).setCell (p := ⟨g, init.length * 3 + 2, none⟩) (.inr rfl) (.slice (some ad) nn cc)) (fun h => hgB h.symm)
            have hcF : Chg (From W0) w (w5.setCell ⟨g, init.length * 3 + 2, none⟩ (.slice (some ad) nn cc)) := (hcD.trans (hc2.mono (O' := From W0) (fun k _ hk => hmW k hk))).setCell (.inr (show From W0 g from hgW)) _
            go_ret
            exact linePost_yes hr.out rfl hcF ⟨_, ⟨hbase, hbF, .inr ⟨init, _, _, _, rfl, hst⟩⟩⟩
        · have tn : decide ((0 : Int) < (n : Int)) = false := decide_eq_false (by omega)
          have tnn : decide (0 < n) = false := decide_eq_false hn
          have hr : Hid (readLine (init ++ [q]) o n (c :: r) = none) := by
            rw [Hid, HR.out]
            rw [if_neg (fun q => hn q.2.2), if_neg (fun q => by rw [h32] at q; exact absurd q.1 (by decide)), if_neg (fun q => by rw [h32] at q; exact absurd q.1 (by decide))]
          have hcN : Chg (From W0) w w1 := hA2.mono (fun _ _ h => h.elim)
          clear HR hopen hlast hbox hA2
          go_wp2_with fail
          go_ret
          exact linePost_no hr.out rfl hcN
      · have to : decide ((0 : Int) < (o : Int)) = false := decide_eq_false (by omega)
        have ton : decide (0 < o) = false := decide_eq_false ho
        have hr : Hid (readLine (init ++ [q]) o n (c :: r) = none) := by
          rw [Hid, HR.out]
          rw [if_neg (fun q => ho q.2.1), if_neg (fun q => ho q.2), if_neg (fun q => by rw [h32] at q; exact absurd q.1 (by decide))]
        have hcN : Chg (From W0) w w1 := hA2.mono (fun _ _ h => h.elim)
        clear HR hopen hlast hbox hA2
        go_wp2_with fail
        go_ret
        exact linePost_no hr.out rfl hcN
    · have q32 : ((c.toNat : Int) == 32) = false := byte_ne_int h32 rfl
      by_cases h45 : c = 45
      · have q45 : ((c.toNat : Int) == 45) = true := by rw [h45]; rfl
        have q43 : ((c.toNat : Int) == 43) = false := by rw [h45]; rfl
        by_cases ho : 0 < o
        · have to : decide ((0 : Int) < (o : Int)) = true := decide_eq_true (by omega)
          have hr : Hid (readLine (init ++ [q]) o n (c :: r) = some (init ++ [⟨q.old, q.new, q.marks ++ [⟨(c.toNat : Int), tx⟩]⟩], o - 1, n)) := by
            rw [Hid, HR.out, if_neg (fun q => h32 q.1), if_pos ⟨h45, ho⟩, add_mark, h45]; rfl
          obtain ⟨o1, rfl⟩ : ∃ o1, o = o1 + 1 := ⟨o - 1, by omega⟩
          clear h32 h45 ho to HR hopen
          go_upto_region 12 with fail
          have hboxS : Blk3 (w1.setCell ⟨B, 1, none⟩ (.int .i64 (o1 : Nat))) B 107 (.slice (some ⟨g, 0, none⟩) (init.length + 1) gcap) (.int .i64 (o1 : Nat)) (.int .i64 (n : Nat)) := hbox.set1 _
          have hS : Chg (fun k => k = B) w1 (w1.setCell ⟨B, 1, none⟩ (.int .i64 (o1 : Nat))) := (Chg.refl (fun k => k = B) w1).setCell (p := ⟨B, 1, none⟩) (.inr rfl) _
          have hlastS := hlast.keepO (O'' := RdO W0 B) hS (fun _ _ hk => .inr hk) (fun _ _ hk => hk)
          have x0 := hS.cell x0 hMne
          have x1 := hS.cell x1 hMne
          have hMS := Nat.lt_of_lt_of_le hM1 hS.size
          have hcS : Chg (From W0) w (w1.setCell ⟨B, 1, none⟩ (.int .i64 (o1 : Nat))) := (hA2.mono (fun _ _ h => h.elim)).trans (hS.mono (fun k _ hk => by subst hk; exact hbase))
          clear hbox hlast hA2 hM1 hxb c0 c1 c2 hf1 hf2
          generalize w1.setCell ⟨B, 1, none⟩ (.int .i64 (o1 : Nat)) = w2 at hboxS hS hlastS x0 x1 hMS hcS ⊢
          clear hS
          obtain ⟨g', gcap', hq, hg1, -, -, -, m2, m0, m1, hfr⟩ := hlastS.shape
          simp only [Value.slice.injEq, Option.some.injEq, Addr.mk.injEq, and_true, true_and] at hq
          obtain ⟨rfl, rfl⟩ := hq
          obtain ⟨c0, -, -⟩ := hboxS.cell
          have sw : IntKind.i64.wrap ((init.length : Int) + 1 - 1) = init.length := by rw [show (init.length : Int) + 1 - 1 = (init.length : Int) by omega]; exact IntWalk.i64_in _ (by omega)
          have sw2 : IntKind.i64.wrap (init.length : Int) = init.length := IntWalk.i64_in _ (by omega)
          have si : (init.length : Int) < (init.length : Int) + 1 := by omega
          go_quiet (fail)
          clear sw sw2 si c0
          have hq3 : Chg Never w2 (w2.drewN nq) := (Chg.refl Never w2).drewN nq
          have hlast3 := hlastS.keep hq3
          have hbox3 := hboxS.keep hq3 (fun h => h)
          have x0 : (w2.drewN nq).cell? ⟨M, 0, none⟩ = some (.int .u8 c.toNat) := x0
          have x1 : (w2.drewN nq).cell? ⟨M, 1, none⟩ = some (.string tx) := x1
          have m2 : (w2.drewN nq).cell? ⟨g, init.length * 3 + 2, none⟩ = some mv := m2
          have hfr : ∀ j, (w2.drewN nq).frozen? ⟨g, j, none⟩ = false := hfr
          have hg1 : g < (w2.drewN nq).heap.size := hg1
          have hc3 : Chg (From W0) w (w2.drewN nq) := hcS.trans (hq3.mono (fun _ _ h => h.elim))
          clear hlastS hboxS hq3 m0 m1 hcS
          generalize w2.drewN nq = w3 at hlast3 hbox3 x0 x1 m2 hfr hg1 hc3 ⊢
          go_wp2_with fail
          have hcd : Chg Never w3 w3.drew := (Chg.refl Never w3).drew
          have hmL := hlast3.keep hcd
          have hboxD := hbox3.keep hcd (fun h => h)
          have x0 : w3.drew.cell? ⟨M, 0, none⟩ = some (.int .u8 c.toNat) := x0
          have x1 : w3.drew.cell? ⟨M, 1, none⟩ = some (.string tx) := x1
          have m2 : w3.drew.cell? ⟨g, init.length * 3 + 2, none⟩ = some mv := m2
          have hfr : ∀ j, w3.drew.frozen? ⟨g, j, none⟩ = false := hfr
          have hg1 : g < w3.drew.heap.size := hg1
          have hcD : Chg (From W0) w w3.drew := hc3.trans (hcd.mono (fun _ _ h => h.elim))
          have hgM : ¬ OwnB mv g := by
            obtain ⟨_, _, qq, _⟩ := hmL.marks
            exact fun hh => qq g hh (.inr rfl)
          have hBM : ¬ OwnB mv B := by
            obtain ⟨_, _, qq, _⟩ := hmL.marks
            exact fun hh => qq B hh (.inl (.inr rfl))
          have hxM : ¬ OwnB mv M := fun hh => Nat.lt_irrefl _ (hmM M hh)
          have hgB : g ≠ B := fun e => hg2 (.inr e)
          have hgW : W0 ≤ g := by
            rcases Nat.lt_or_ge g W0 with h | h
            · exact absurd (.inl h) hg2
            · exact h
          have hmW : ∀ k, OwnB mv k → W0 ≤ k := fun k hk => by
            obtain ⟨_, _, qq, _⟩ := hmL.marks
            rcases Nat.lt_or_ge k W0 with h | h
            · exact absurd (.inl (.inl h)) (qq k hk)
            · exact h
          have hO : ∀ k, (RdO W0 B k ∨ (Value.slice (some ⟨g, 0, none⟩) (init.length + 1) gcap).ownBlock = some k) → k < w3.drew.heap.size := by
            have hBl := hboxD.lt
            rintro k ((h | rfl) | h)
            · omega
            · exact hBl
            · cases h; exact hg1
          have s0 : (0 : Int) ≤ (c.toNat : Int) := by omega
          have s1 : (c.toNat : Int) < 256 := by have := c.toNat_lt; omega
          have hlm : q.marks.length ≤ 1000000000 := by omega
          clear hlast3 hbox3 hcd hc3
          go_region_law ((refine step_push (by rfl) _ _ 44 (by rfl) elemOk_mark (O := fun k => RdO W0 B k ∨ (Value.slice (some ⟨g, 0, none⟩) (init.length + 1) gcap).ownBlock = some k) (l := q.marks) (y := ⟨(c.toNat : Int), tx⟩) (by rfl) (by rfl) (by simp) hmL.marks (rd_mark _ _ _ tx s0 s1 htz) hO hlm ?_; intro v' w5 hown2 hc2 hk2; obtain ⟨ad, nn, cc, rfl⟩ := own_slice hk2; have hfr5 : w5.frozen? ⟨g, init.length * 3 + 2, none⟩ = false := (hc2.frozen (p := ⟨g, init.length * 3 + 2, none⟩) hg1 hgM).trans (hfr _); have hcl5 : w5.cell? ⟨g, init.length * 3 + 2, none⟩ = some mv := hc2.cell (p := ⟨g, init.length * 3 + 2, none⟩) m2 hgM; have hb0 : w5.cell? ⟨M, 0, none⟩ = some (.int .u8 c.toNat) := hc2.cell (p := ⟨M, 0, none⟩) x0 hxM; have hb1 : w5.cell? ⟨M, 1, none⟩ = some (.string tx) := hc2.cell (p := ⟨M, 1, none⟩) x1 hxM))
          all_goals go_wp2_with fail
          all_goals
            have hst := OwnLast.stored hmL hown2 hc2 hk2
            have hbF := (hboxD.keep hc2 hBM).keep ((Chg.refl (fun k => k = g) w5).setCell (p := ⟨g, init.length * 3 + 2, none⟩) (.inr rfl) (.slice (some ad) nn cc)) (fun h => hgB h.symm)
            have hcF : Chg (From W0) w (w5.setCell ⟨g, init.length * 3 + 2, none⟩ (.slice (some ad) nn cc)) := (hcD.trans (hc2.mono (O' := From W0) (fun k _ hk => hmW k hk))).setCell (.inr (show From W0 g from hgW)) _
            go_ret
            exact linePost_yes hr.out rfl hcF ⟨_, ⟨hbase, hbF, .inr ⟨init, _, _, _, rfl, hst⟩⟩⟩
        · have to : decide ((0 : Int) < (o : Int)) = false := decide_eq_false (by omega)
          have ton : decide (0 < o) = false := decide_eq_false ho
          have hr : Hid (readLine (init ++ [q]) o n (c :: r) = none) := by
            rw [Hid, HR.out]
            rw [if_neg (fun q => ho q.2.1), if_neg (fun q => ho q.2), if_neg (fun q => by rw [h45] at q; exact absurd q.1 (by decide))]
          have hcN : Chg (From W0) w w1 := hA2.mono (fun _ _ h => h.elim)
          clear HR hopen hlast hbox hA2
          go_wp2_with fail
          go_ret
          exact linePost_no hr.out rfl hcN
      · have q45 : ((c.toNat : Int) == 45) = false := byte_ne_int h45 rfl
        by_cases h43 : c = 43
        · have q43 : ((c.toNat : Int) == 43) = true := by rw [h43]; rfl
          by_cases hn : 0 < n
          · have tn : decide ((0 : Int) < (n : Int)) = true := decide_eq_true (by omega)
            have hr : Hid (readLine (init ++ [q]) o n (c :: r) = some (init ++ [⟨q.old, q.new, q.marks ++ [⟨(c.toNat : Int), tx⟩]⟩], o, n - 1)) := by
              rw [Hid, HR.out, if_neg (fun q => h32 q.1), if_neg (fun q => h45 q.1), if_pos ⟨h43, hn⟩, add_mark, h43]; rfl
            obtain ⟨n1, rfl⟩ : ∃ n1, n = n1 + 1 := ⟨n - 1, by omega⟩
            clear h32 h45 h43 hn tn HR hopen
            go_upto_region 12 with fail
            have hboxS : Blk3 (w1.setCell ⟨B, 2, none⟩ (.int .i64 (n1 : Nat))) B 107 (.slice (some ⟨g, 0, none⟩) (init.length + 1) gcap) (.int .i64 (o : Nat)) (.int .i64 (n1 : Nat)) := hbox.set2 _
            have hS : Chg (fun k => k = B) w1 (w1.setCell ⟨B, 2, none⟩ (.int .i64 (n1 : Nat))) := (Chg.refl (fun k => k = B) w1).setCell (p := ⟨B, 2, none⟩) (.inr rfl) _
            have hlastS := hlast.keepO (O'' := RdO W0 B) hS (fun _ _ hk => .inr hk) (fun _ _ hk => hk)
            have x0 := hS.cell x0 hMne
            have x1 := hS.cell x1 hMne
            have hMS := Nat.lt_of_lt_of_le hM1 hS.size
            have hcS : Chg (From W0) w (w1.setCell ⟨B, 2, none⟩ (.int .i64 (n1 : Nat))) := (hA2.mono (fun _ _ h => h.elim)).trans (hS.mono (fun k _ hk => by subst hk; exact hbase))
            clear hbox hlast hA2 hM1 hxb c0 c1 c2 hf1 hf2
            generalize w1.setCell ⟨B, 2, none⟩ (.int .i64 (n1 : Nat)) = w2 at hboxS hS hlastS x0 x1 hMS hcS ⊢
            clear hS
            obtain ⟨g', gcap', hq, hg1, -, -, -, m2, m0, m1, hfr⟩ := hlastS.shape
            simp only [Value.slice.injEq, Option.some.injEq, Addr.mk.injEq, and_true, true_and] at hq
            obtain ⟨rfl, rfl⟩ := hq
            obtain ⟨c0, -, -⟩ := hboxS.cell
            have sw : IntKind.i64.wrap ((init.length : Int) + 1 - 1) = init.length := by rw [show (init.length : Int) + 1 - 1 = (init.length : Int) by omega]; exact IntWalk.i64_in _ (by omega)
            have sw2 : IntKind.i64.wrap (init.length : Int) = init.length := IntWalk.i64_in _ (by omega)
            have si : (init.length : Int) < (init.length : Int) + 1 := by omega
            go_quiet (fail)
            clear sw sw2 si c0
            have hq3 : Chg Never w2 (w2.drewN nq) := (Chg.refl Never w2).drewN nq
            have hlast3 := hlastS.keep hq3
            have hbox3 := hboxS.keep hq3 (fun h => h)
            have x0 : (w2.drewN nq).cell? ⟨M, 0, none⟩ = some (.int .u8 c.toNat) := x0
            have x1 : (w2.drewN nq).cell? ⟨M, 1, none⟩ = some (.string tx) := x1
            have m2 : (w2.drewN nq).cell? ⟨g, init.length * 3 + 2, none⟩ = some mv := m2
            have hfr : ∀ j, (w2.drewN nq).frozen? ⟨g, j, none⟩ = false := hfr
            have hg1 : g < (w2.drewN nq).heap.size := hg1
            have hc3 : Chg (From W0) w (w2.drewN nq) := hcS.trans (hq3.mono (fun _ _ h => h.elim))
            clear hlastS hboxS hq3 m0 m1 hcS
            generalize w2.drewN nq = w3 at hlast3 hbox3 x0 x1 m2 hfr hg1 hc3 ⊢
            go_wp2_with fail
            have hcd : Chg Never w3 w3.drew := (Chg.refl Never w3).drew
            have hmL := hlast3.keep hcd
            have hboxD := hbox3.keep hcd (fun h => h)
            have x0 : w3.drew.cell? ⟨M, 0, none⟩ = some (.int .u8 c.toNat) := x0
            have x1 : w3.drew.cell? ⟨M, 1, none⟩ = some (.string tx) := x1
            have m2 : w3.drew.cell? ⟨g, init.length * 3 + 2, none⟩ = some mv := m2
            have hfr : ∀ j, w3.drew.frozen? ⟨g, j, none⟩ = false := hfr
            have hg1 : g < w3.drew.heap.size := hg1
            have hcD : Chg (From W0) w w3.drew := hc3.trans (hcd.mono (fun _ _ h => h.elim))
            have hgM : ¬ OwnB mv g := by
              obtain ⟨_, _, qq, _⟩ := hmL.marks
              exact fun hh => qq g hh (.inr rfl)
            have hBM : ¬ OwnB mv B := by
              obtain ⟨_, _, qq, _⟩ := hmL.marks
              exact fun hh => qq B hh (.inl (.inr rfl))
            have hxM : ¬ OwnB mv M := fun hh => Nat.lt_irrefl _ (hmM M hh)
            have hgB : g ≠ B := fun e => hg2 (.inr e)
            have hgW : W0 ≤ g := by
              rcases Nat.lt_or_ge g W0 with h | h
              · exact absurd (.inl h) hg2
              · exact h
            have hmW : ∀ k, OwnB mv k → W0 ≤ k := fun k hk => by
              obtain ⟨_, _, qq, _⟩ := hmL.marks
              rcases Nat.lt_or_ge k W0 with h | h
              · exact absurd (.inl (.inl h)) (qq k hk)
              · exact h
            have hO : ∀ k, (RdO W0 B k ∨ (Value.slice (some ⟨g, 0, none⟩) (init.length + 1) gcap).ownBlock = some k) → k < w3.drew.heap.size := by
              have hBl := hboxD.lt
              rintro k ((h | rfl) | h)
              · omega
              · exact hBl
              · cases h; exact hg1
            have s0 : (0 : Int) ≤ (c.toNat : Int) := by omega
            have s1 : (c.toNat : Int) < 256 := by have := c.toNat_lt; omega
            have hlm : q.marks.length ≤ 1000000000 := by omega
            clear hlast3 hbox3 hcd hc3
            go_region_law ((refine step_push (by rfl) _ _ 44 (by rfl) elemOk_mark (O := fun k => RdO W0 B k ∨ (Value.slice (some ⟨g, 0, none⟩) (init.length + 1) gcap).ownBlock = some k) (l := q.marks) (y := ⟨(c.toNat : Int), tx⟩) (by rfl) (by rfl) (by simp) hmL.marks (rd_mark _ _ _ tx s0 s1 htz) hO hlm ?_; intro v' w5 hown2 hc2 hk2; obtain ⟨ad, nn, cc, rfl⟩ := own_slice hk2; have hfr5 : w5.frozen? ⟨g, init.length * 3 + 2, none⟩ = false := (hc2.frozen (p := ⟨g, init.length * 3 + 2, none⟩) hg1 hgM).trans (hfr _); have hcl5 : w5.cell? ⟨g, init.length * 3 + 2, none⟩ = some mv := hc2.cell (p := ⟨g, init.length * 3 + 2, none⟩) m2 hgM; have hb0 : w5.cell? ⟨M, 0, none⟩ = some (.int .u8 c.toNat) := hc2.cell (p := ⟨M, 0, none⟩) x0 hxM; have hb1 : w5.cell? ⟨M, 1, none⟩ = some (.string tx) := hc2.cell (p := ⟨M, 1, none⟩) x1 hxM))
            all_goals go_wp2_with fail
            all_goals
              have hst := OwnLast.stored hmL hown2 hc2 hk2
              have hbF := (hboxD.keep hc2 hBM).keep ((Chg.refl (fun k => k = g) w5).setCell (p := ⟨g, init.length * 3 + 2, none⟩) (.inr rfl) (.slice (some ad) nn cc)) (fun h => hgB h.symm)
              have hcF : Chg (From W0) w (w5.setCell ⟨g, init.length * 3 + 2, none⟩ (.slice (some ad) nn cc)) := (hcD.trans (hc2.mono (O' := From W0) (fun k _ hk => hmW k hk))).setCell (.inr (show From W0 g from hgW)) _
              go_ret
              exact linePost_yes hr.out rfl hcF ⟨_, ⟨hbase, hbF, .inr ⟨init, _, _, _, rfl, hst⟩⟩⟩
          · have tn : decide ((0 : Int) < (n : Int)) = false := decide_eq_false (by omega)
            have tnn : decide (0 < n) = false := decide_eq_false hn
            have hr : Hid (readLine (init ++ [q]) o n (c :: r) = none) := by
              rw [Hid, HR.out]
              rw [if_neg (fun q => h32 q.1), if_neg (fun q => h45 q.1), if_neg (fun q => hn q.2)]
            have hcN : Chg (From W0) w w1 := hA2.mono (fun _ _ h => h.elim)
            clear HR hopen hlast hbox hA2
            go_wp2_with fail
            go_ret
            exact linePost_no hr.out rfl hcN
        · have q43 : ((c.toNat : Int) == 43) = false := byte_ne_int h43 rfl
          have hr : Hid (readLine (init ++ [q]) o n (c :: r) = none) := by
            rw [Hid, HR.out]
            rw [if_neg (fun q => h32 q.1), if_neg (fun q => h45 q.1), if_neg (fun q => h43 q.1)]
          have hcN : Chg (From W0) w w1 := hA2.mono (fun _ _ h => h.elim)
          clear HR hopen hlast hbox hA2
          go_wp2_with fail
          go_ret
          exact linePost_no hr.out rfl hcN
end Go.Proofs.YtnekhaacapdmfaaDoor
namespace Go.Proofs.YtnekhaacapdmfaaDoor
open Go.RowKit

theorem lib_pre (s p : List UInt8) : (dropPre p s = none ∧ Lib.hasPrefix s p = false ∧ Lib.trimPrefix s p = s) ∨ ∃ r, dropPre p s = some r ∧ Lib.hasPrefix s p = true ∧ Lib.trimPrefix s p = r := by
  unfold dropPre Lib.trimPrefix Lib.hasPrefix
  by_cases h : p.isPrefixOf s = true
  · exact .inr ⟨_, by rw [if_pos h], h, by rw [if_pos h]⟩
  · exact .inl ⟨by rw [if_neg h], Bool.eq_false_iff.2 h, by rw [if_neg h]⟩
theorem lib_suf (s p : List UInt8) : (dropSuf p s = none ∧ Lib.hasSuffix s p = false ∧ Lib.trimSuffix s p = s) ∨ ∃ r, dropSuf p s = some r ∧ Lib.hasSuffix s p = true ∧ Lib.trimSuffix s p = r := by
  unfold dropSuf Lib.trimSuffix Lib.hasSuffix
  by_cases h : p.isSuffixOf s = true
  · exact .inr ⟨_, by rw [if_pos h], h, by rw [if_pos h]⟩
  · exact .inl ⟨by rw [if_neg h], Bool.eq_false_iff.2 h, by rw [if_neg h]⟩
/-- a head, as the program reads it: five tests -/
theorem head_tests (s : List UInt8) : ∃ (p1 p2 p3 : Bool) (s1 s2 ca cb : List UInt8), Lib.hasPrefix s atAt = p1 ∧ Lib.trimPrefix s atAt = s1 ∧ Lib.hasSuffix s1 endAt = p2 ∧ Lib.trimSuffix s1 endAt = s2 ∧ Lib.cut s2 [32, 43] = (ca, cb, p3) ∧
    s1.length ≤ s.length ∧ s2.length ≤ s.length ∧ ca.length ≤ s.length ∧ cb.length ≤ s.length ∧
    headOf s = if p1 = true ∧ p2 = true ∧ p3 = true then (match spanOf ca with
          | none => none
          | some (a, x) => match spanOf cb with
            | none => none
            | some (b, y) => some (a, x, b, y)) else none := by
  have hc := lib_cut (t := [32, 43]) (s := Lib.trimSuffix (Lib.trimPrefix s atAt) endAt) (by simp)
  have l1 : (Lib.trimPrefix s atAt).length ≤ s.length := by
    unfold Lib.trimPrefix; split
    · rw [List.length_drop]; omega
    · exact Nat.le_refl _
  have l2 : (Lib.trimSuffix (Lib.trimPrefix s atAt) endAt).length ≤ s.length := by
    unfold Lib.trimSuffix; split
    · rw [List.length_take]; omega
    · exact l1
  have l3 := cutA_len [32, 43] (Lib.trimSuffix (Lib.trimPrefix s atAt) endAt)
  have l4 := cutB_len [32, 43] (Lib.trimSuffix (Lib.trimPrefix s atAt) endAt)
  refine ⟨_, _, _, _, _, _, _, rfl, rfl, rfl, rfl, hc, l1, l2, by omega, by omega, ?_⟩
  unfold headOf
  rcases lib_pre s atAt with ⟨h1, h2, h3⟩ | ⟨r, h1, h2, h3⟩
  · rw [h1, h2, if_neg (by simp)]
  · rw [h1, h2, h3]
    simp only
    rcases lib_suf r endAt with ⟨g1, g2, g3⟩ | ⟨q, g1, g2, g3⟩
    · rw [g1, g2, if_neg (by simp)]
    · rw [g1, g2, g3]
      simp only
      unfold cutA cutB
      cases hcu : cutSub [32, 43] q with
      | none => rw [if_neg (by simp)]
      | some p =>
        simp
        rfl
theorem rl_head {hs : List Hunk} {o n : Nat} (h : ¬ (0 < o ∨ 0 < n)) (s : List UInt8) : readLine hs o n s = match headOf s with
    | none => none
    | some (a, x, b, y) => some (hs ++ [⟨a, b, []⟩], x, y) := by unfold readLine; rw [if_neg h]; rfl

set_option maxHeartbeats 2000000 in
set_option maxRecDepth 100000 in
theorem reader_line (W0 B : Nat) (v : Value) (hs : List Hunk) (o n : Nat) (s : ByteArray) (w : World) (h : RdrAt w W0 B v hs o n) (hk : RdOk hs o n) (hs1 : s.size ≤ 1000000000) (hon : o ≤ 1000000 ∧ n ≤ 1000000)
    (hb : hs.length ≤ 1000000) (hml : ∀ h ∈ hs, h.marks.length ≤ 1000000) (m : Int) (hg : Globs w m) :
    Calls Tryd.prog 62 #[.pointer (some ⟨B, 0, none⟩), .string s] w (LinePost W0 B hs o n s.data.toList w) := by
  by_cases hop : 0 < o ∨ 0 < n
  · have HO := Lib.hid (opn_true hop)
    have HC := Lib.hid (reader_mark W0 B v hs o n s w h hop (hk hop) hs1 hon hb hml)
    have hbox := h.box
    clear hml hk hop
    go_enter Tryd.func62, Tryd.ntmps62
    go_wp2_with fail
    refine (rd_open B v o n _ hbox).mono ?_
    rintro e w1 ⟨rfl, rfl⟩
    rw [HO.out]
    go_wp2_with fail
    refine HC.out.mono ?_
    rintro e w2 ⟨hc, hp⟩
    cases hr : readLine hs o n s.data.toList with
    | none =>
      rw [hr] at hp
      subst hp
      have HR := Lib.hid hr
      clear hr HC
      go_wp2_with fail
      go_ret
      exact linePost_no HR.out rfl hc
    | some p =>
      obtain ⟨hs', o', n'⟩ := p
      rw [hr] at hp
      obtain ⟨rfl, hp⟩ := hp
      have HR := Lib.hid hr
      have HP := Lib.hid hp
      clear hr hp HC
      go_wp2_with fail
      go_ret
      exact linePost_yes HR.out rfl hc HP.out
  · have HO := Lib.hid (opn_false hop)
    have HR := Lib.hid (rl_head (hs := hs) hop s.data.toList)
    have hbox := h.box
    have hbase := h.base
    have hown := h.own
    obtain ⟨p1, p2, p3, s1, s2, ca, cb, e1, e2, e3, e4, e5, l1, l2, l3, l4, hh⟩ := head_tests s.data.toList
    have HH := Lib.hid hh
    have E1 := Lib.hid e1
    have E2 := Lib.hid e2
    have E3 := Lib.hid e3
    have E4 := Lib.hid e4
    have E5 := Lib.hid e5
    rw [← Lib.size_eq] at l1 l2 l3 l4
    clear e1 e2 e3 e4 e5 hh hml hk hop h
    go_enter Tryd.func62, Tryd.ntmps62
    go_wp2_with fail
    refine (rd_open B v o n _ hbox).mono ?_
    rintro e w1 ⟨rfl, rfl⟩
    rename World => w
    rw [HO.out]
    go_wp2_with fail
    refine (Tryd.strings_CutPrefix s (toB atAt) _).mono ?_
    rintro e w1 ⟨rfl, rfl⟩
    rename World => w
    rw [toB_data, E1.out, E2.out]
    rw [show (⟨s1.toArray⟩ : ByteArray) = toB s1 from rfl]
    go_wp2_with fail
    refine (Tryd.strings_CutSuffix (toB s1) (toB endAt) _ (by rw [toB_size']; omega)).mono ?_
    rintro e w1 ⟨rfl, rfl⟩
    rename World => w
    rw [toB_data, toB_data, E3.out, E4.out]
    rw [show (⟨s2.toArray⟩ : ByteArray) = toB s2 from rfl]
    go_wp2_with fail
    refine (Tryd.strings_Cut (toB s2) (toB [32, 43]) m _ (by rw [toB_size']; omega) hg.ml).mono ?_
    rintro e w2 ⟨rfl, nd, rfl⟩
    have hc : Chg Never w (w.drewN nd) := (Chg.refl Never w).drewN nd
    rw [toB_data, toB_data, E5.out]
    rw [show (⟨ca.toArray⟩ : ByteArray) = toB ca from rfl, show (⟨cb.toArray⟩ : ByteArray) = toB cb from rfl]
    generalize w.drewN nd = w2 at hc ⊢
    go_wp2_with fail
    refine (read_any (toB ca) (by rw [toB_size']; omega) _ m (hg.never hc)).mono ?_
    rintro e w3 ⟨x, y, rfl, hxy, hc3⟩
    have hc := hc.trans hc3
    rw [toB_data] at hxy ⊢
    go_wp2_with fail
    refine (read_any (toB cb) (by rw [toB_size']; omega) _ m (hg.never hc)).mono ?_
    rintro e w4 ⟨x', y', rfl, hxy', hc4⟩
    have hc := hc.trans hc4
    rw [toB_data] at hxy' ⊢
    clear hc3 hc4 E1 E2 E3 E4 E5
    cases p1 with
    | false =>
      have hr : Hid (readLine hs o n s.data.toList = none) := by
        rw [Hid, HR.out, HH.out]
        simp
      have hcN : Chg (From W0) w _ := hc.mono (O' := From W0) (fun _ _ h => h.elim)
      clear HR HH
      go_wp2_with fail
      go_ret
      exact linePost_no hr.out rfl hcN
    | true =>
      cases p2 with
      | false =>
        have hr : Hid (readLine hs o n s.data.toList = none) := by
          rw [Hid, HR.out, HH.out]
          simp
        have hcN : Chg (From W0) w _ := hc.mono (O' := From W0) (fun _ _ h => h.elim)
        clear HR HH
        go_wp2_with fail
        go_ret
        exact linePost_no hr.out rfl hcN
      | true =>
        cases p3 with
        | false =>
          have hr : Hid (readLine hs o n s.data.toList = none) := by
            rw [Hid, HR.out, HH.out]
            simp
          have hcN : Chg (From W0) w _ := hc.mono (O' := From W0) (fun _ _ h => h.elim)
          clear HR HH
          go_wp2_with fail
          go_ret
          exact linePost_no hr.out rfl hcN
        | true =>
          cases ha : spanOf ca with
          | none =>
            rw [ha] at HH
            rw [Option.isSome_none]
            clear ha hxy hxy'
            generalize (spanOf cb).isSome = f5
            have hr : Hid (readLine hs o n s.data.toList = none) := by
              rw [Hid, HR.out, HH.out]
              simp
            have hcN : Chg (From W0) w _ := hc.mono (O' := From W0) (fun _ _ h => h.elim)
            clear HR HH
            go_wp2_with fail
            go_ret
            exact linePost_no hr.out rfl hcN
          | some p =>
            obtain ⟨a, xa⟩ := p
            obtain ⟨rfl, rfl⟩ := hxy a xa ha
            rw [ha] at HH
            rw [Option.isSome_some]
            cases hb2 : spanOf cb with
            | none =>
              rw [hb2] at HH
              rw [Option.isSome_none]
              clear ha hxy hxy' hb2
              have hr : Hid (readLine hs o n s.data.toList = none) := by
                rw [Hid, HR.out, HH.out]
                simp
              have hcN : Chg (From W0) w _ := hc.mono (O' := From W0) (fun _ _ h => h.elim)
              clear HR HH
              go_wp2_with fail
              go_ret
              exact linePost_no hr.out rfl hcN
            | some p =>
              obtain ⟨b, xb⟩ := p
              obtain ⟨rfl, rfl⟩ := hxy' b xb hb2
              rw [hb2] at HH
              rw [Option.isSome_some]
              have hr : Hid (readLine hs o n s.data.toList = some (hs ++ [⟨x, x', []⟩], xa, xb)) := by
                rw [Hid, HR.out, HH.out]
                simp
              have hbox4 := hbox.keep hc (fun h => h)
              have hown4 := hown.never hc
              have hBl := hbox4.lt
              obtain ⟨c0, c1, c2⟩ := hbox4.cell
              have hfr := hbox4.free
              have hO : ∀ k, RdO W0 B k → k < w4.heap.size := by
                rintro k (hk | rfl)
                · omega
                · exact hBl
              obtain ⟨va, vn, vc, rfl⟩ := own_isSlice hown4
              have hBv : ¬ OwnB (.slice va vn vc) B := by
                obtain ⟨_, _, qq, _⟩ := hown4
                exact fun hh => qq B hh (.inr rfl)
              have hvW : ∀ k, OwnB (.slice va vn vc) k → W0 ≤ k := fun k hk => by
                obtain ⟨_, _, qq, _⟩ := hown4
                rcases Nat.lt_or_ge k W0 with h | h
                · exact absurd (.inl h) (qq k hk)
                · exact h
              have hlen : hs.length ≤ 1000000000 := by omega
              clear HR HH ha hb2 hxy hxy' hbox hown
              go_wp2_with (at_builtin; refine wpList_push_last (by rfl) _ _ 41 (by rfl) 100 elemOk_hunk (O := RdO W0 B) (by rfl) (by rfl) (by simp) hown4 hO hlen ?_; intro v' w5 xs hlast hc5; obtain ⟨g', gc', rfl, -, -, -, -, -, -, -, -⟩ := hlast.shape; have hbox5 := hbox4.keep hc5 hBv; have hfr5 := hbox5.free 0; have hfr51 := hbox5.free 1; have hfr52 := hbox5.free 2; obtain ⟨d0, d1, d2⟩ := hbox5.cell)
              have hcF : Chg (From W0) w ((((w5.setCell ⟨B, 0, none⟩ (.slice (some ⟨g', 0, none⟩) (hs.length + 1) gc')).setCell ⟨B, 1, none⟩ (.int .i64 (xa : Nat))).setCell ⟨B, 2, none⟩ (.int .i64 (xb : Nat)))) :=
                ((((hc.mono (O' := From W0) (fun _ _ h => h.elim)).trans (hc5.mono (O' := From W0) (fun k _ hk => hvW k hk))).setCell (.inr (show From W0 B from hbase)) _).setCell (.inr (show From W0 B from hbase)) _).setCell (.inr (show From W0 B from hbase)) _
              have hSB : Chg (fun k => k = B) w5 ((((w5.setCell ⟨B, 0, none⟩ (.slice (some ⟨g', 0, none⟩) (hs.length + 1) gc')).setCell ⟨B, 1, none⟩ (.int .i64 (xa : Nat))).setCell ⟨B, 2, none⟩ (.int .i64 (xb : Nat)))) :=
                (((Chg.refl (fun k => k = B) w5).setCell (p := ⟨B, 0, none⟩) (.inr rfl) _).setCell (p := ⟨B, 1, none⟩) (.inr rfl) _).setCell (p := ⟨B, 2, none⟩) (.inr rfl) _
              have hRF : ∃ v', RdrAt ((((w5.setCell ⟨B, 0, none⟩ (.slice (some ⟨g', 0, none⟩) (hs.length + 1) gc')).setCell ⟨B, 1, none⟩ (.int .i64 (xa : Nat))).setCell ⟨B, 2, none⟩ (.int .i64 (xb : Nat)))) W0 B v' (hs ++ [⟨x, x', []⟩]) xa xb :=
                ⟨_, hbase, ((hbox5.set0 _).set1 _).set2 _, .inr ⟨hs, _, _, _, rfl, hlast.keepO hSB (fun _ _ hk => .inr hk) (fun _ _ hk => hk)⟩⟩
              have HRF := Lib.hid hRF
              have HCF := Lib.hid hcF
              clear hRF hcF hSB hlast hc5 hbox4 hbox5 hown4 c0 c1 c2 hfr hc
              go_wp2_with fail
              go_ret
              exact linePost_yes hr.out rfl HCF.out HRF.out
end Go.Proofs.YtnekhaacapdmfaaDoor
namespace Go.Proofs.YtnekhaacapdmfaaDoor
open Go.RowKit

theorem byte_at {s : ByteArray} {k : Nat} (h : k < s.size) : s.data.toList[k]? = some (s[k]'h) := by
  rw [Array.getElem?_toList, Array.getElem?_eq_getElem h]; rfl
theorem byte_eq {c d : UInt8} {n : Int} (h : ((c.toNat : Int) == n) = true) (hd : (d.toNat : Int) = n) : c = d := by
  have := eq_of_beq h
  exact UInt8.toNat_inj.1 (by omega)
theorem byte_ne {c d : UInt8} {n : Int} (h : ((c.toNat : Int) == n) = false) (hd : (d.toNat : Int) = n) : c ≠ d := by
  rintro rfl
  rw [hd] at h
  simp at h
/-- how far a text has been parted -/
def PartsInv (d : UInt8) (s : ByteArray) (q k : Nat) (L : List ByteArray) : Prop :=
  parts d s.data.toList = L.map (·.data.toList) ++ parts d (s.data.toList.drop q) ∧ ∀ j, q ≤ j → j < k → s.data.toList[j]? ≠ some d
theorem pinv_start (d : UInt8) (s : ByteArray) : PartsInv d s 0 0 [] := ⟨by simp, fun j _ h => absurd h (Nat.not_lt_zero j)⟩
theorem PartsInv.step {d : UInt8} {s : ByteArray} {q k : Nat} {L : List ByteArray} {c : UInt8} (h : PartsInv d s q k L) (hk : s.data.toList[k]? = some c) (hc : c ≠ d) : PartsInv d s q (k + 1) L :=
  ⟨h.1, fun j h1 h2 e => by
    by_cases hj : j = k
    · subst hj; rw [hk] at e; injection e with e; exact hc e
    · exact h.2 j h1 (by omega) e⟩
theorem no_sep {d : UInt8} {s : List UInt8} {q k : Nat} (h : ∀ j, q ≤ j → j < k → s[j]? ≠ some d) : ∀ x ∈ (s.drop q).take (k - q), x ≠ d := by
  rintro x hx rfl
  obtain ⟨i, hi⟩ := List.getElem?_of_mem hx
  rw [List.getElem?_take] at hi
  split at hi
  · rw [List.getElem?_drop] at hi
    exact h (q + i) (by omega) (by omega) hi
  · cases hi
theorem PartsInv.cut {d : UInt8} {s : ByteArray} {q k : Nat} {L : List ByteArray} (h : PartsInv d s q k L) (hq : q ≤ k) (hk : s.data.toList[k]? = some d) : PartsInv d s (k + 1) (k + 1) (L ++ [s.extract q k]) := by
  refine ⟨?_, fun j h1 h2 => by omega⟩
  have e : s.data.toList.drop q = (s.data.toList.drop q).take (k - q) ++ d :: s.data.toList.drop (k + 1) := by
    conv => lhs; rw [← List.take_append_drop (k - q) (s.data.toList.drop q), List.drop_drop, show q + (k - q) = k by omega, drop_eq hk]
  rw [h.1, e, parts_cut _ (no_sep h.2), List.map_append, List.append_assoc]
  simp only [List.map_cons, List.map_nil, List.singleton_append]
  rw [Lib.extract_data]
theorem PartsInv.fin {d : UInt8} {s : ByteArray} {q : Nat} {L : List ByteArray} (h : PartsInv d s q s.size L) : (parts d s.data.toList).map toB = L ++ [s.extract q s.size] := by
  have hl : s.data.toList.length = s.size := (Lib.size_eq s).symm
  have e : (s.data.toList.drop q).take (s.size - q) = s.data.toList.drop q := List.take_of_length_le (by rw [List.length_drop, hl]; exact Nat.le_refl _)
  have hn := no_sep h.2
  rw [e] at hn
  have e2 : toB (s.data.toList.drop q) = s.extract q s.size := by rw [← e, ← Lib.extract_data, toB_of]
  rw [h.1, parts_none hn, List.map_append, List.map_map, map_toB, List.map_cons, List.map_nil, e2]

theorem elemOk_parts : ElemOk Tryd.prog 62 9 1 := elemOk_of Tryd.underlying62 (z := .string ⟨#[]⟩) (b := 16) (by kernel_rfl) rfl (by decide)
set_option maxHeartbeats 1000000 in
set_option maxRecDepth 100000 in
theorem refParts_any (s : ByteArray) (w : World) (hs : s.size ≤ 100000000) :
    Calls Tryd.prog 39 #[.string s] w fun e w' => ∃ r, e = .returned r ∧ Chg Never w w' ∧ Rdv w' (Old w.heap.size) r ((parts 10 s.data.toList).map toB) := by
  go_enter Tryd.func39, Tryd.ntmps39
  go_wp2_with fail
  go_loopw [3, 4, 5] (fun o fr i wr => ∃ (q k : Nat) (L : List ByteArray), fr = .int .i64 q ∧ i = .int .i64 k ∧ q ≤ k ∧ k ≤ s.size ∧ Chg Never w wr ∧ Own 9 wr (Old w.heap.size) o L ∧ L.length ≤ k ∧ Hid (PartsInv 10 s q k L)) (fun _ _ i _ => s.size - (intOf i).toNat)
  case atStart => exact ⟨0, 0, [], rfl, rfl, Nat.le_refl _, Nat.zero_le _, Chg.refl _ _, own_nil _ _ _, Nat.le_refl _, pinv_start _ _⟩
  case round =>
    obtain ⟨q, k, L, rfl, rfl, hqk, hk, hc, hown, hL, hP⟩ := hrel
    by_cases hlt : k < s.size
    · have HB := Lib.hid (byte_at hlt)
      cases hq : (((s[k]'hlt).toNat : Int) == 10) with
      | true =>
        have HC : Hid (PartsInv 10 s (k + 1) (k + 1) (L ++ [s.extract q k])) := hP.out.cut hqk (by rw [HB.out, byte_eq (d := 10) hq rfl])
        have hes : (s.extract q k).size ≤ maxLen := by rw [ByteArray.size_extract]; unfold maxLen; omega
        go_wp2_with (at_builtin; refine wpList_push (by rfl) _ _ 62 (by rfl) elemOk_parts (O := Old w.heap.size) (l := L) (y := s.extract q k) (by rfl) (by rfl) (by simp) hown ⟨rfl, hes⟩ (old_lt hc) (by omega) ?_; intro v' w2 hown2 hc2 _)
        have hc3 := own_step hc hown hc2
        clear hc2 hown hc
        go_wp2_with fail
        go_roundw
        case rel => exact ⟨k + 1, k + 1, _, by go_num, by go_num, Nat.le_refl _, by omega, hc3, hown2, by simp; omega, HC⟩
        case measure => simp [intOf] <;> omega
      | false =>
        have HC : Hid (PartsInv 10 s q (k + 1) L) := hP.out.step HB.out (byte_ne hq rfl)
        go_wp2_with fail
        go_roundw
        case rel => exact ⟨q, k + 1, L, rfl, by go_num, by omega, by omega, hc, hown, by omega, HC⟩
        case measure => simp [intOf] <;> omega
    · obtain rfl : k = s.size := by omega
      have HC := Lib.hid hP.out.fin
      have hes : (s.extract q s.size).size ≤ maxLen := by rw [ByteArray.size_extract]; unfold maxLen; omega
      go_wp2_with (at_builtin; refine wpList_push (by rfl) _ _ 62 (by rfl) elemOk_parts (O := Old w.heap.size) (l := L) (y := s.extract q s.size) (by rfl) (by rfl) (by simp) hown ⟨rfl, hes⟩ (old_lt hc) (by omega) ?_; intro v' w2 hown2 hc2 _)
      have hc3 := own_step hc hown hc2
      clear hc2 hown hc
      go_wp2_with fail
      go_ret
      exact ⟨_, rfl, hc3, by rw [HC.out]; exact hown2.rdv⟩

end Go.Proofs.YtnekhaacapdmfaaDoor
namespace Go.Proofs.YtnekhaacapdmfaaDoor

/-- do lines stand at a place? -/
def standsB (a : List ByteArray) (at_ : Int) (l : List ByteArray) : Bool :=
  decide (0 ≤ at_) && decide (at_ + l.length ≤ a.length) && decide ((a.drop at_.toNat).take l.length = l)
/-- hunk by hunk: the number, from where on the file is not yet copied, what has come so far -/
def strictGo (a : List ByteArray) : Nat → Nat → List ByteArray → List Hunk → List ByteArray × Nat × Int
  | _, fr, out, [] => if 60 < (out ++ a.drop fr).length then ([], 0, 3) else (out ++ a.drop fr, 0, 0)
  | i, fr, out, h :: r =>
    if standsB a h.old (oldOf h.marks) then strictGo a (i + 1) (h.old.toNat + oldN h.marks) (out ++ (a.drop fr).take (h.old.toNat - fr) ++ newOf h.marks) r
    else ([], i, 6)
def strict (a : List ByteArray) (l : List Hunk) : List ByteArray × Nat × Int :=
  if linesFault a ≠ 0 then ([], 0, linesFault a) else if (hunksFault l).2 ≠ 0 then ([], (hunksFault l).1, (hunksFault l).2) else strictGo a 0 0 [] l

/-- p has the hunks l, each at its place, and all else of it is kept -/
inductive Fits : List Mark → List Hunk → Prop
  | nil : Fits [] []
  | keep {p : List Mark} {l : List Hunk} {m : Mark} : Fits p l → m.sign = 32 → Fits (p ++ [m]) l
  | hunk {p : List Mark} {l : List Hunk} (m : List Mark) : Fits p l → hasChange m = true → Fits (p ++ m) (l ++ [⟨oldN p, newN p, m⟩])
theorem Pcs.fits {b : Bool} {p : List Mark} {l : List Hunk} (h : Pcs b p l) : Fits p l := by
  induction h with
  | nil => exact .nil
  | keep _ hs ih => exact ih.keep hs
  | hunk m _ hc ih => exact ih.hunk m hc

theorem those_append (p m : List Mark) (no : Int) : those (p ++ m) no = those p no ++ those m no := by simp [those, List.filter_append]
theorem those_keep {m : Mark} (h : m.sign = 32) : those [m] 43 = [m.text] ∧ those [m] 45 = [m.text] := by simp [those, h]
theorem oldN_eq (p : List Mark) : oldN p = (those p 43).length := rfl
theorem newN_eq (p : List Mark) : newN p = (those p 45).length := rfl

/-- the state behind some hunks -/
def doAll (a : List ByteArray) : Nat → List ByteArray → List Hunk → Option (Nat × List ByteArray)
  | fr, out, [] => some (fr, out)
  | fr, out, h :: r => if standsB a h.old (oldOf h.marks) then doAll a (h.old.toNat + oldN h.marks) (out ++ (a.drop fr).take (h.old.toNat - fr) ++ newOf h.marks) r else none
theorem doAll_snoc (a : List ByteArray) : ∀ (l : List Hunk) (h : Hunk) (fr fr' : Nat) (out out' : List ByteArray), doAll a fr out l = some (fr', out') → standsB a h.old (oldOf h.marks) = true →
    doAll a fr out (l ++ [h]) = some (h.old.toNat + oldN h.marks, out' ++ (a.drop fr').take (h.old.toNat - fr') ++ newOf h.marks)
  | [], h, fr, fr', out, out', e, hs => by
    simp only [doAll, Option.some.injEq, Prod.mk.injEq] at e
    obtain ⟨rfl, rfl⟩ := e
    simp [doAll, hs]
  | x :: r, h, fr, fr', out, out', e, hs => by
    simp only [doAll, List.cons_append] at e ⊢
    by_cases hx : standsB a x.old (oldOf x.marks) = true
    · rw [if_pos hx] at e ⊢
      exact doAll_snoc a r h _ _ _ _ e hs
    · rw [if_neg hx] at e; cases e
theorem strictGo_of (a : List ByteArray) : ∀ (l : List Hunk) (i fr fr' : Nat) (out out' : List ByteArray), doAll a fr out l = some (fr', out') → (out' ++ a.drop fr').length ≤ 60 → strictGo a i fr out l = (out' ++ a.drop fr', 0, 0)
  | [], i, fr, fr', out, out', e, h60 => by
    simp only [doAll, Option.some.injEq, Prod.mk.injEq] at e
    obtain ⟨rfl, rfl⟩ := e
    rw [strictGo, if_neg (by omega)]
  | x :: r, i, fr, fr', out, out', e, h60 => by
    rw [doAll] at e
    by_cases hx : standsB a x.old (oldOf x.marks) = true
    · rw [if_pos hx] at e
      rw [strictGo, if_pos hx]
      exact strictGo_of a r _ _ _ _ _ e h60
    · rw [if_neg hx] at e; cases e
theorem strictGo_inv (a : List ByteArray) : ∀ (l : List Hunk) (i fr : Nat) (out y : List ByteArray) (k : Nat), strictGo a i fr out l = (y, k, 0) → ∃ fr' out', doAll a fr out l = some (fr', out') ∧ y = out' ++ a.drop fr' ∧ y.length ≤ 60 ∧ k = 0
  | [], i, fr, out, y, k, e => by
    rw [strictGo] at e
    by_cases h : 60 < (out ++ a.drop fr).length
    · rw [if_pos h] at e; simp at e
    · rw [if_neg h] at e
      simp only [Prod.mk.injEq, and_true] at e
      obtain ⟨rfl, rfl⟩ := e
      exact ⟨fr, out, rfl, rfl, by omega, rfl⟩
  | x :: r, i, fr, out, y, k, e => by
    rw [strictGo] at e
    by_cases hx : standsB a x.old (oldOf x.marks) = true
    · rw [if_pos hx] at e
      obtain ⟨fr', out', h1, h2, h3, h4⟩ := strictGo_inv a r _ _ _ _ _ e
      exact ⟨fr', out', by rw [doAll, if_pos hx]; exact h1, h2, h3, h4⟩
    · rw [if_neg hx] at e; simp at e

theorem stands_mid (x y z : List ByteArray) : standsB (x ++ y ++ z) (x.length : Int) y = true := by
  unfold standsB
  simp only [Bool.and_eq_true, decide_eq_true_eq, Int.toNat_natCast]
  refine ⟨⟨by omega, by simp; omega⟩, ?_⟩
  rw [List.append_assoc, List.drop_left, List.take_left]

theorem Fits.doAll {p : List Mark} {l : List Hunk} (h : Fits p l) : ∀ t : List ByteArray, ∃ fr out, doAll (those p 43 ++ t) 0 [] l = some (fr, out) ∧ fr ≤ oldN p ∧ out ++ (those p 43).drop fr = those p 45 := by
  induction h with
  | nil => intro t; exact ⟨0, [], rfl, Nat.zero_le _, rfl⟩
  | @keep p l m h hs ih =>
    intro t
    obtain ⟨fr, out, h1, h2, h3⟩ := ih ([m.text] ++ t)
    refine ⟨fr, out, ?_, ?_, ?_⟩
    · rw [those_append, (those_keep hs).1, List.append_assoc]; exact h1
    · rw [oldN_append]; omega
    · rw [those_append, those_append, (those_keep hs).1, (those_keep hs).2, List.drop_append_of_le_length (by rw [← oldN_eq]; exact h2), ← List.append_assoc, h3]
  | @hunk p l m h hc ih =>
    intro t
    obtain ⟨fr, out, h1, h2, h3⟩ := ih (those m 43 ++ t)
    refine ⟨oldN p + oldN m, those p 45 ++ those m 45, ?_, ?_, ?_⟩
    · rw [those_append, List.append_assoc]
      have hs : standsB (those p 43 ++ (those m 43 ++ t)) ((oldN p : Nat) : Int) (oldOf m) = true := by
        rw [← List.append_assoc]
        exact stands_mid (those p 43) (those m 43) t
      rw [doAll_snoc _ l ⟨oldN p, newN p, m⟩ _ _ _ _ h1 hs]
      have e1 : ((those p 43 ++ (those m 43 ++ t)).drop fr).take (oldN p - fr) = (those p 43).drop fr := by
        rw [List.drop_append_of_le_length (by rw [← oldN_eq]; exact h2), List.take_left' (by rw [List.length_drop, ← oldN_eq])]
      simp only [Int.toNat_natCast]
      rw [e1, h3]
      rfl
    · rw [oldN_append]; omega
    · rw [those_append, those_append, List.drop_of_length_le (by rw [List.length_append, ← oldN_eq, ← oldN_eq]; omega), List.append_nil]

theorem Fits.ok {p : List Mark} {l : List Hunk} (h : Fits p l) : (∀ x ∈ p, markFault x = 0) → (∀ q ∈ l, q.marks.length ≤ 120) → oldN p ≤ 60 → newN p ≤ 60 → hOk 0 0 l ∧ (hFin 0 0 l).1 ≤ oldN p ∧ (hFin 0 0 l).2 = (newN p : Int) - oldN p := by
  induction h with
  | nil => intro _ _ _ _; exact ⟨trivial, by simp [hFin], by simp [hFin, oldN, newN, those]⟩
  | @keep p l m h hs ih =>
    intro s0 s3 s1 s2
    rw [oldN_append, oldN_keep hs] at s1 ⊢
    rw [newN_append, newN_keep hs] at s2 ⊢
    obtain ⟨i1, i2, i3⟩ := ih (fun x hx => s0 x (List.mem_append_left _ hx)) s3 (by omega) (by omega)
    exact ⟨i1, by omega, by omega⟩
  | @hunk p l m h hc ih =>
    intro s0 s3 s1 s2
    rw [oldN_append] at s1 ⊢
    rw [newN_append] at s2 ⊢
    obtain ⟨i1, i2, i3⟩ := ih (fun x hx => s0 x (List.mem_append_left _ hx)) (fun q hq => s3 q (List.mem_append_left _ hq)) (by omega) (by omega)
    have hm : scriptFault m = 0 := scriptFault_zero.2 ⟨s3 ⟨oldN p, newN p, m⟩ (by simp), fun x hx => s0 x (List.mem_append_right _ hx)⟩
    rw [hFin_snoc]
    refine ⟨hOk_snoc _ _ _ _ i1 (oneFault_of hm hc ?_ ?_ ?_ ?_ ?_ ?_), ?_, ?_⟩
    all_goals simp only []
    all_goals omega

theorem Fits.turn {p : List Mark} {l : List Hunk} (h : Fits p l) : Fits (p.map turnMark) (turnHunks l) := by
  induction h with
  | nil => exact .nil
  | @keep p l m h hs ih =>
    rw [List.map_append]
    exact ih.keep ((turnMark_32 m).2 hs)
  | @hunk p l m h hc ih =>
    rw [List.map_append]
    have e : turnHunks (l ++ [⟨oldN p, newN p, m⟩]) = turnHunks l ++ [⟨oldN (p.map turnMark), newN (p.map turnMark), m.map turnMark⟩] := by
      simp [turnHunks, turnHunk, oldN_turn, newN_turn]
    rw [e]
    exact ih.hunk _ (by rw [hasChange_turn]; exact hc)

/-- hunks that fit a script lead from its old lines to its new ones -/
theorem Fits.strict {p : List Mark} {l : List Hunk} (h : Fits p l) (h1 : linesFault (those p 43) = 0) (h2 : (hunksFault l).2 = 0) (h3 : newN p ≤ 60) : strict (those p 43) l = (those p 45, 0, 0) := by
  unfold Proofs.YtnekhaacapdmfaaDoor.strict
  rw [if_neg (by simp [h1]), if_neg (by simp [h2])]
  obtain ⟨fr, out, e1, e2, e3⟩ := h.doAll []
  rw [List.append_nil] at e1
  rw [strictGo_of _ l 0 0 fr [] out e1 (by rw [e3, ← newN_eq]; exact h3), e3]

/-! ### hunks that were done fit -/
def keeps (l : List ByteArray) : List Mark := l.map fun x => ⟨32, x⟩
theorem those_keeps (l : List ByteArray) : those (keeps l) 43 = l ∧ those (keeps l) 45 = l := by
  unfold keeps those
  constructor
  · rw [List.filter_eq_self.2 (by intro m hm; obtain ⟨x, _, rfl⟩ := List.mem_map.1 hm; simp), List.map_map]
    exact List.map_id' l
  · rw [List.filter_eq_self.2 (by intro m hm; obtain ⟨x, _, rfl⟩ := List.mem_map.1 hm; simp), List.map_map]
    exact List.map_id' l
theorem Fits.keeps {p : List Mark} {l : List Hunk} (h : Fits p l) : ∀ r : List ByteArray, Fits (p ++ Proofs.YtnekhaacapdmfaaDoor.keeps r) l := by
  intro r
  induction r generalizing p with
  | nil => simpa [Proofs.YtnekhaacapdmfaaDoor.keeps] using h
  | cons x r ih =>
    have := ih (h.keep (m := ⟨32, x⟩) rfl)
    rw [List.append_assoc] at this
    exact this

theorem stands_split {a : List ByteArray} {at_ : Int} {l : List ByteArray} (h : standsB a at_ l = true) : 0 ≤ at_ ∧ at_.toNat + l.length ≤ a.length ∧ a = a.take at_.toNat ++ l ++ a.drop (at_.toNat + l.length) := by
  unfold standsB at h
  simp only [Bool.and_eq_true, decide_eq_true_eq] at h
  obtain ⟨⟨h1, h2⟩, h3⟩ := h
  refine ⟨h1, by omega, ?_⟩
  conv => lhs; rw [← List.take_append_drop at_.toNat a, ← List.take_append_drop l.length (a.drop at_.toNat), h3, List.drop_drop]
  rw [List.append_assoc]

theorem fits_of_doAll (a : List ByteArray) : ∀ (r l : List Hunk) (p : List Mark) (fr fr' : Nat) (out out' : List ByteArray) (more : Int), Fits p l → those p 43 = a.take fr → fr ≤ a.length → those p 45 = out → more = (newN p : Int) - oldN p →
    hOk fr more r → doAll a fr out r = some (fr', out') → ∃ q, Fits q (l ++ r) ∧ those q 43 = a.take fr' ∧ fr' ≤ a.length ∧ those q 45 = out'
  | [], l, p, fr, fr', out, out', more, hf, h1, h2, h3, h4, _, hd => by
    simp only [doAll, Option.some.injEq, Prod.mk.injEq] at hd
    obtain ⟨rfl, rfl⟩ := hd
    exact ⟨p, by simpa using hf, h1, h2, h3⟩
  | h :: r, l, p, fr, fr', out, out', more, hf, h1, h2, h3, h4, hk, hd => by
    rw [doAll] at hd
    by_cases hs : standsB a h.old (oldOf h.marks) = true
    · rw [if_pos hs] at hd
      obtain ⟨z1, z2, z3, z4, z5, z6, z7, z8⟩ := oneFault_zero hk.1
      obtain ⟨s1, s2, s3⟩ := stands_split hs
      have hon : oldN h.marks = (oldOf h.marks).length := rfl
      have hle : fr ≤ h.old.toNat := by omega
      have hpn : oldN p = fr := by rw [oldN_eq, h1, List.length_take]; omega
      have gap : (a.drop fr).take (h.old.toNat - fr) = (a.take h.old.toNat).drop fr := by rw [List.drop_take]
      have hl2 : ((a.drop fr).take (h.old.toNat - fr)).length = h.old.toNat - fr := by rw [List.length_take, List.length_drop]; omega
      have f1 := hf.keeps ((a.drop fr).take (h.old.toNat - fr))
      have f2 := f1.hunk h.marks z2
      have c1 : oldN (p ++ keeps ((a.drop fr).take (h.old.toNat - fr))) = h.old.toNat := by
        rw [oldN_append, oldN_eq (keeps _), (those_keeps _).1, hl2, hpn]; omega
      have c2 : (newN (p ++ keeps ((a.drop fr).take (h.old.toNat - fr))) : Int) = h.new := by
        rw [newN_append, newN_eq (keeps _), (those_keeps _).2, hl2]; omega
      have e1 : (⟨(oldN (p ++ keeps ((a.drop fr).take (h.old.toNat - fr))) : Int), (newN (p ++ keeps ((a.drop fr).take (h.old.toNat - fr))) : Int), h.marks⟩ : Hunk) = h := by
        rw [c1, c2]
        obtain ⟨o, n, m⟩ := h
        simp only [Hunk.mk.injEq, and_true]
        simp only at s1
        omega
      rw [e1] at f2
      have t1 : those (p ++ keeps ((a.drop fr).take (h.old.toNat - fr)) ++ h.marks) 43 = a.take (h.old.toNat + oldN h.marks) := by
        rw [those_append, those_append, (those_keeps _).1, h1, gap]
        have g1 : a.take fr ++ (a.take h.old.toNat).drop fr = a.take h.old.toNat := by
          conv => rhs; rw [← List.take_append_drop fr (a.take h.old.toNat)]
          rw [List.take_take, Nat.min_eq_left hle]
        rw [g1]
        conv => rhs; rw [s3]
        have g2 : (a.take h.old.toNat ++ oldOf h.marks).length = h.old.toNat + oldN h.marks := by rw [List.length_append, List.length_take]; omega
        rw [List.take_append_of_le_length (by omega)]
        exact (List.take_of_length_le (l := a.take h.old.toNat ++ oldOf h.marks) (by omega)).symm
      have t2 : those (p ++ keeps ((a.drop fr).take (h.old.toNat - fr)) ++ h.marks) 45 = out ++ (a.drop fr).take (h.old.toNat - fr) ++ newOf h.marks := by
        rw [those_append, those_append, (those_keeps _).2, h3]; rfl
      have t3 : more + newN h.marks - oldN h.marks = (newN (p ++ keeps ((a.drop fr).take (h.old.toNat - fr)) ++ h.marks) : Int) - oldN (p ++ keeps ((a.drop fr).take (h.old.toNat - fr)) ++ h.marks) := by
        rw [newN_append _ h.marks, oldN_append _ h.marks, c1]
        push_cast
        rw [c2]
        omega
      have hk2 : hOk ((h.old.toNat + oldN h.marks : Nat) : Int) (more + newN h.marks - oldN h.marks) r := by
        have := hk.2
        rw [show ((h.old.toNat + oldN h.marks : Nat) : Int) = h.old + oldN h.marks by omega]
        exact this
      obtain ⟨q, q1, q2, q3, q4⟩ := fits_of_doAll a r (l ++ [h]) _ _ _ _ _ _ f2 t1 (by omega) t2 t3 hk2 hd
      exact ⟨q, by simpa using q1, q2, q3, q4⟩
    · rw [if_neg hs] at hd; cases hd

theorem strict_zero {a y : List ByteArray} {l : List Hunk} {k : Nat} (h : strict a l = (y, k, 0)) : linesFault a = 0 ∧ hunksFault l = (0, 0) ∧ strictGo a 0 0 [] l = (y, k, 0) := by
  unfold strict at h
  by_cases h1 : linesFault a ≠ 0
  · rw [if_pos h1] at h
    simp only [Prod.mk.injEq] at h
    exact absurd h.2.2 h1
  · rw [if_neg h1] at h
    by_cases h2 : (hunksFault l).2 ≠ 0
    · rw [if_pos h2] at h
      simp only [Prod.mk.injEq] at h
      exact absurd h.2.2 h2
    · rw [if_neg h2] at h
      exact ⟨by simpa using h1, hunksFault_first (by simpa using h2), h⟩
theorem fits_of_strict {a y : List ByteArray} {l : List Hunk} {k : Nat} (h : strict a l = (y, k, 0)) : k = 0 ∧ y.length ≤ 60 ∧ ∃ q, Fits q l ∧ those q 43 = a ∧ those q 45 = y := by
  obtain ⟨h1, h2, h3⟩ := strict_zero h
  obtain ⟨fr, out, e1, e2, e3, e4⟩ := strictGo_inv a l 0 0 [] y k h3
  obtain ⟨_, hk⟩ := hunksFault_zero (by rw [h2])
  obtain ⟨q, q1, q2, q3, q4⟩ := fits_of_doAll a l [] [] 0 fr [] out 0 .nil rfl (Nat.zero_le _) rfl rfl hk e1
  refine ⟨e4, e3, q ++ keeps (a.drop fr), q1.keeps _, ?_, ?_⟩
  · rw [those_append, (those_keeps _).1, q2, List.take_append_drop]
  · rw [those_append, (those_keeps _).2, q4, e2]

theorem hOk_mem : ∀ (l : List Hunk) (fin more : Int), hOk fin more l → ∀ h ∈ l, scriptFault h.marks = 0
  | [], _, _, _, h, hh => by simp at hh
  | x :: r, fin, more, hk, h, hh => by
    rcases List.mem_cons.1 hh with rfl | hh
    · exact (oneFault_zero hk.1).1
    · exact hOk_mem r _ _ hk.2 h hh
theorem markFault_line {m : Mark} (h : markFault m = 0) : lineFault m.text = 0 := by
  unfold markFault at h
  by_cases h1 : m.sign ≠ 32 ∧ m.sign ≠ 45 ∧ m.sign ≠ 43
  · rw [if_pos h1] at h; simp at h
  · rw [if_neg h1] at h; exact h
/-- lines of the new file are lines of the old one, or of a hunk -/
theorem Fits.lines {p : List Mark} {l : List Hunk} (h : Fits p l) (ha : ∀ x ∈ those p 43, lineFault x = 0) (hl : ∀ q ∈ l, scriptFault q.marks = 0) : ∀ x ∈ those p 45, lineFault x = 0 := by
  induction h with
  | nil => intro x hx; simp [those] at hx
  | @keep p l m h hs ih =>
    intro x hx
    rw [those_append, (those_keep hs).2] at hx
    rw [those_append, (those_keep hs).1] at ha
    rcases List.mem_append.1 hx with hx | hx
    · exact ih (fun y hy => ha y (List.mem_append_left _ hy)) hl x hx
    · exact ha x (List.mem_append_right _ hx)
  | @hunk p l m h hc ih =>
    intro x hx
    rw [those_append] at hx ha
    rcases List.mem_append.1 hx with hx | hx
    · exact ih (fun y hy => ha y (List.mem_append_left _ hy)) (fun q hq => hl q (List.mem_append_left _ hq)) x hx
    · have := scriptFault_zero.1 (hl ⟨oldN p, newN p, m⟩ (by simp))
      unfold those at hx
      obtain ⟨y, hy, rfl⟩ := List.mem_map.1 hx
      exact markFault_line (this.2 y (List.mem_filter.1 hy).1)

/-- what was done is undone -/
theorem strict_undo {a y : List ByteArray} {l : List Hunk} {k : Nat} (h : strict a l = (y, k, 0)) : strict y (turnHunks l) = (a, 0, 0) ∧ linesFault y = 0 := by
  obtain ⟨h1, h2, h3⟩ := strict_zero h
  obtain ⟨_, hy, q, q1, q2, q3⟩ := fits_of_strict h
  obtain ⟨a1, a2⟩ := linesFault_zero.1 h1
  obtain ⟨_, hk⟩ := hunksFault_zero (by rw [h2])
  have hly : linesFault y = 0 := by
    rw [linesFault_zero]
    exact ⟨hy, q3 ▸ q1.lines (q2 ▸ a2) (hOk_mem _ _ _ hk)⟩
  have t := q1.turn
  have e1 : those (q.map turnMark) 43 = y := by rw [(those_turn q).1, q3]
  have e2 : those (q.map turnMark) 45 = a := by rw [(those_turn q).2, q2]
  have := t.strict (by rw [e1]; exact hly) (by rw [turn_ok h2]) (by rw [newN_eq, e2]; exact a1)
  rw [e1, e2] at this
  exact ⟨this, hly⟩

/-- what was found is done, and back -/
theorem strict_cut {a b : List ByteArray} {n : Int} (h : checkedFault a b = 0) (h0 : 0 ≤ n) (h1 : n ≤ 1000) :
    cutFault (script a b) n = 0 ∧ strict a (cutOf (script a b) n) = (b, 0, 0) ∧ hunksFault (cutOf (script a b) n) = (0, 0) ∧ strict b (turnHunks (cutOf (script a b) n)) = (a, 0, 0) := by
  obtain ⟨ha, hb⟩ := checkedFault_zero.1 h
  have e1 : those (script a b) 43 = a := script_old a b
  have e2 : those (script a b) 45 = b := script_new a b
  have la := (linesFault_zero.1 ha).1
  have lb := (linesFault_zero.1 hb).1
  have hc : cutFault (script a b) n = 0 := by
    unfold cutFault
    rw [if_neg (by simp [script_valid h]), if_neg (by omega), if_neg (by rw [oldN_eq, newN_eq, e1, e2]; omega)]
  have hk := cut_ok hc
  obtain ⟨_, hp⟩ := cut_pcs (s := script a b) h0
  have f := hp.fits
  have r1 := f.strict (by rw [e1]; exact ha) (by rw [hk]) (by rw [newN_eq, e2]; exact lb)
  rw [e1, e2] at r1
  exact ⟨hc, r1, hk, (strict_undo r1).1⟩
end Go.Proofs.YtnekhaacapdmfaaDoor
namespace Go.Proofs.YtnekhaacapdmfaaDoor
open Go.RowKit

def cutR (s : List Mark) (n : Int) : List Hunk := if cutFault s n = 0 then cutOf s n else []

/-! ### turned -/

theorem map_take {l : List Mark} {k : Nat} {x : Mark} (hx : l[k]? = some x) : (l.take (k + 1)).map turnMark = (l.take k).map turnMark ++ [turnMark x] := by
  rw [List.take_add_one, hx]; simp


def turnR (l : List Hunk) : List Hunk := if (hunksFault l).2 = 0 then turnHunks l else []
theorem turnHunks_take {l : List Hunk} {k : Nat} {x : Hunk} (hx : l[k]? = some x) : turnHunks (l.take (k + 1)) = turnHunks (l.take k) ++ [turnHunk x] := by
  rw [List.take_add_one, hx]; simp [turnHunks]
end Go.Proofs.YtnekhaacapdmfaaDoor
namespace Go.Proofs.YtnekhaacapdmfaaDoor
open Go.RowKit

theorem elems_cells {α : Type} [Dat α] {w : World} {O : Nat → Prop} {b off : Nat} {m : List α} (h : Elems w O (some ⟨b, off, none⟩) m) : ∀ k, k ≤ m.length →
    ∃ news : List Value, news.length = k * Dat.n α ∧ (∀ (j : Nat) (u : Value), news[j]? = some u → w.cell? ⟨b, off + j, none⟩ = some u) ∧ (∀ u ∈ news, u.oneCell' = true) ∧
      (∀ (i : Nat) (x : α), i < k → m[i]? = some x → Dat.rd w O ((news.drop (i * Dat.n α)).take (Dat.n α)) x) := by
  intro k
  induction k with
  | zero => intro _; exact ⟨[], by simp, by simp, by simp, fun i x hi => by omega⟩
  | succ k ih =>
    intro hk
    obtain ⟨news, h1, h2, h3, h4⟩ := ih (by omega)
    have hx : m[k]? = some m[k] := by simp
    obtain ⟨b', off', es, he, hb, hcs, hr⟩ := h k m[k] hx
    simp only [Option.some.injEq, Addr.mk.injEq, and_true] at he
    obtain ⟨rfl, rfl⟩ := he
    have hes := Dat.len hr
    refine ⟨news ++ es, by rw [List.length_append, h1, hes, Nat.succ_mul], ?_, ?_, ?_⟩
    · intro j u hj
      rcases Nat.lt_or_ge j news.length with hl | hl
      · rw [List.getElem?_append_left hl] at hj
        exact h2 j u hj
      · rw [List.getElem?_append_right hl] at hj
        have := hcs _ u hj
        rw [show off + k * Dat.n α + (j - news.length) = off + j by omega] at this
        exact this
    · intro u hu
      rcases List.mem_append.1 hu with hu | hu
      · exact h3 u hu
      · exact Dat.one hr u hu
    · intro i x hi hxi
      rcases Nat.lt_or_ge i k with hl | hl
      · have hle : i * Dat.n α + Dat.n α ≤ news.length := by rw [h1, ← Nat.succ_mul]; exact Nat.mul_le_mul_right _ hl
        rw [List.drop_append_of_le_length (by omega), List.take_append_of_le_length (by rw [List.length_drop]; omega)]
        exact h4 i x hl hxi
      · obtain rfl : i = k := by omega
        rw [hx] at hxi
        injection hxi with hxi
        subst hxi
        rw [← h1, List.drop_left, List.take_of_length_le (by omega)]
        exact hr

theorem run_append_empty {P : Program} {t ty e : TypeId} {n : Nat} (hP : ElemOk P t e n) {w : World} {v : Value} {m : Nat} {xs : List Value} (hown : w.ownsRow 0 e n v m xs) (a : Option Addr) (c : Nat) :
    (Builtin.append_ #[t, t] ty #[v, .slice a 0 c]).run P w = .ok v w := by
  obtain ⟨i, z, hi, _⟩ := hP.info
  have ht := hP.ht
  cases a with
  | none =>
    rcases hown.2 with ⟨rfl, rfl⟩ | ⟨g, cap, cur, rfl, _, _, hnc, _⟩
    · simp [Builtin.append_, run_underlying ht, sizeOf, typeInfo, hi, Builtin.lenOf, Builtin.firstCells]
    · simp [Builtin.append_, run_underlying ht, sizeOf, typeInfo, hi, Builtin.lenOf, Builtin.firstCells, hnc, storeCells]
  | some a =>
    rcases hown.2 with ⟨rfl, rfl⟩ | ⟨g, cap, cur, rfl, _, _, hnc, _⟩
    · simp [Builtin.append_, run_underlying ht, sizeOf, typeInfo, hi, Builtin.lenOf, Builtin.firstCells, loadCells, loadCellsFrom]
    · simp [Builtin.append_, run_underlying ht, sizeOf, typeInfo, hi, Builtin.lenOf, Builtin.firstCells, loadCells, loadCellsFrom, hnc, storeCells]

theorem run_many {P : Program} {α : Type} [Dat α] {t ty e : TypeId} (hP : ElemOk P t e (Dat.n α)) {w0 : World} {O : Nat → Prop} {v x : Value} {l m : List α}
    (hown : Own e w0 O v l) (hx : Rdv w0 Never x m) (hd : ∀ cs y, Dat.rd w0 Never cs (y : α) → Dat.rd w0 (fun k => O k ∨ v.ownBlock = some k) cs y) (hO : ∀ k, O k → k < w0.heap.size) (hlen : l.length + m.length ≤ 1000000000) :
    ∃ v' w', (Builtin.append_ #[t, t] ty #[v, x]).run P w0 = .ok v' w' ∧ Own e w' O v' (l ++ m) ∧ Chg (OwnB v) w0 w' := by
  obtain ⟨a, cap, rfl, c1, c2, hel⟩ := rdv_slice hx
  rcases Nat.eq_zero_or_pos m.length with h0 | hpos
  · have : m = [] := List.eq_nil_of_length_eq_zero h0
    subst this
    refine ⟨v, w0, ?_, by rw [List.append_nil]; exact hown, Chg.refl _ _⟩
    obtain ⟨xs, hrow, _⟩ := hown
    exact run_append_empty hP hrow a cap
  · obtain ⟨b, off, rfl⟩ : ∃ b off, a = some ⟨b, off, none⟩ := by
      obtain ⟨b, off, es, ha, _⟩ := hel 0 m[0] (by simp [hpos])
      exact ⟨b, off, ha⟩
    obtain ⟨i, z, hi, hz, hsz, hzs, hby⟩ := hP.info
    obtain ⟨xs, hrow, hb, hels⟩ := id hown
    obtain ⟨news, n1, n2, n3, n4⟩ := elems_cells hel m.length (Nat.le_refl _)
    have hpos' := Dat.pos (α := α)
    have hcells : ∀ j u, news[j]? = some u → w0.cell? ((⟨b, off, none⟩ : Addr).add j) = some u := by
      intro j u hj
      have e1 : (⟨b, off, none⟩ : Addr).add j = ⟨b, off + j, none⟩ := by unfold Addr.add; split <;> simp_all
      rw [e1]
      exact n2 j u hj
    have hbound : (l.length + m.length) * i.bytes ≤ 140737488355328 := by
      have := Nat.mul_le_mul hlen hby
      omega
    obtain ⟨v', w', hrun, hown', hgrow, hnil⟩ := run_append_own (P := P) w0 0 t ty e i z (Dat.n α) i.bytes hP.ht hi hz hsz rfl hzs hpos' v l.length xs hrow
      ⟨b, off, none⟩ m.length cap news n1 hcells n3 (by unfold maxLen; omega) hbound (Nat.zero_le _)
    obtain ⟨kb, hkb, hkb'⟩ := append_block (P := P) w0 0 t ty e i z (Dat.n α) i.bytes hP.ht hi hz hsz rfl v l.length xs hrow
      ⟨b, off, none⟩ m.length cap news n1 hcells n3 (by unfold maxLen; omega) hbound (by omega) hrun
    have hc : Chg (OwnB v) w0 w' := Chg.of_grown hgrow
    have hsub : ∀ k, k < w0.heap.size → (O k ∨ v'.ownBlock = some k) → (O k ∨ v.ownBlock = some k) := by
      rintro k hk (h | h)
      · exact .inl h
      · rw [hkb] at h
        injection h with h
        subst h
        rcases hkb' with h | h
        · exact .inr h
        · omega
    refine ⟨v', w', hrun, ⟨xs ++ news, ?_, ?_, ?_⟩, hc⟩
    · rw [List.length_append]; exact hown'
    · intro k hk ho
      rw [hkb] at hk
      injection hk with hk
      subst hk
      rcases hkb' with h | h
      · exact hb _ h ho
      · exact absurd (hO _ ho) (by omega)
    · intro j y hj
      have hxl : xs.length = l.length * Dat.n α := hrow.1
      rcases Nat.lt_or_ge j l.length with hjl | hjl
      · rw [List.getElem?_append_left hjl] at hj
        have hle : j * Dat.n α + Dat.n α ≤ xs.length := by rw [hxl, ← Nat.succ_mul]; exact Nat.mul_le_mul_right _ hjl
        rw [List.drop_append_of_le_length (by omega), List.take_append_of_le_length (by rw [List.length_drop]; omega)]
        exact Dat.keep (hels j y hj) hc (fun k _ hk => .inr hk) hsub
      · rw [List.getElem?_append_right hjl] at hj
        have hjm := (List.getElem?_eq_some_iff.1 hj).1
        have e1 : (xs ++ news).drop (j * Dat.n α) = news.drop ((j - l.length) * Dat.n α) := by
          have e2 : j * Dat.n α = xs.length + (j - l.length) * Dat.n α := by rw [hxl, ← Nat.add_mul]; congr 1; omega
          rw [e2, List.drop_append]
          simp
        rw [e1]
        exact Dat.keep (hd _ _ (n4 _ y hjm hj)) hc (fun k _ hk => .inr hk) hsub

theorem wpList_many {P : Program} {ops : Array Oper} {rest : List Oper} {o : Oper} {a : Act} {Q : Exit → Act → World → Prop} (hgd : o.guard = none) (s x : Operand) (t : TypeId)
    (ho : o.op = .call { callee := .builtin .append, args := #[s, x], argTypes := #[t, t] }) {α : Type} [Dat α] {e : TypeId} (hP : ElemOk P t e (Dat.n α)) {w0 : World} {O : Nat → Prop} {v u : Value} {l m : List α}
    (hs : a.eval s = v) (hx : a.eval x = u) (hown : Own e w0 O v l) (hu : Rdv w0 Never u m) (hd : ∀ cs y, Dat.rd w0 Never cs (y : α) → Dat.rd w0 (fun k => O k ∨ v.ownBlock = some k) cs y) (hO : ∀ k, O k → k < w0.heap.size) (hlen : l.length + m.length ≤ 1000000000)
    (h : ∀ v' w', Own e w' O v' (l ++ m) → Chg (OwnB v) w0 w' → wpList P ops Q rest (a.put o.dst v') w') :
    wpList P ops Q (o :: rest) a w0 := by
  refine wpList_plain hgd fun K hK => ?_
  obtain ⟨v', w', hrun, h1, h2⟩ := run_many (ty := o.type) hP hown hu hd hO hlen
  unfold Oper.wp execOp
  simp only [ho, resolve, invoke, builtin, Sem.run_bind, Sem.run_pure, Result.andThen_ok, List.map_toArray, List.map_cons, List.map_nil, hs, hx, hrun]
  exact hK _ _ (h v' w' h1 h2)

/-! ### a slice's slice -/
theorem elems_sub {α : Type} [Dat α] {w : World} {O : Nat → Prop} {b off : Nat} {l : List α} (h : Elems w O (some ⟨b, off, none⟩) l) (i k : Nat) : Elems w O (some ⟨b, off + i * Dat.n α, none⟩) ((l.drop i).take k) := by
  intro q x hx
  rw [List.getElem?_take] at hx
  split at hx
  · rw [List.getElem?_drop] at hx
    obtain ⟨b', off', es, he, hb, hcs, hr⟩ := h (i + q) x hx
    simp only [Option.some.injEq, Addr.mk.injEq, and_true] at he
    obtain ⟨rfl, rfl⟩ := he
    refine ⟨b, _, es, rfl, hb, ?_, hr⟩
    rw [Nat.add_assoc, ← Nat.add_mul]
    exact hcs
  · cases hx
/-- 's[i:j]' as a value -/
theorem rdv_sliced {α : Type} [Dat α] {w : World} {O : Nat → Prop} {a : Option Addr} {cap : Nat} {l : List α} (h : Rdv w O (.slice a l.length cap) l) (i j : Nat) (hij : i ≤ j) (hj : j ≤ l.length) :
    Rdv w O (sliced a i j cap (Dat.n α)) ((l.drop i).take (j - i)) := by
  obtain ⟨a', cap', e, h1, h2, h3⟩ := rdv_slice h
  simp only [Value.slice.injEq, true_and] at e
  obtain ⟨rfl, rfl⟩ := e
  have hl : ((l.drop i).take (j - i)).length = j - i := by rw [List.length_take, List.length_drop]; omega
  refine ⟨if cap = i then a else a.map (·.add (i * Dat.n α)), cap - i, by rw [hl]; rfl, by rw [hl]; omega, by omega, ?_⟩
  by_cases hc : cap = i
  · have : (l.drop i).take (j - i) = [] := List.eq_nil_of_length_eq_zero (by rw [hl]; omega)
    rw [this]
    intro q x hx
    simp at hx
  · rw [if_neg hc]
    intro q x hx
    have hq := (List.getElem?_eq_some_iff.1 hx).1
    have hpos : 0 < l.length := by rw [hl] at hq; omega
    obtain ⟨b, off, es, ha, _⟩ := h3 0 l[0] (by simp [hpos])
    subst ha
    have e1 : (some (⟨b, off, none⟩ : Addr)).map (·.add (i * Dat.n α)) = some ⟨b, off + i * Dat.n α, none⟩ := by
      simp only [Option.map_some]
      unfold Addr.add
      split <;> simp_all
    rw [e1]
    exact elems_sub h3 i (j - i) q x hx
theorem sliced_isSlice (a : Option Addr) (i j cap s : Nat) : ∃ b, sliced a i j cap s = .slice b (j - i) (cap - i) := ⟨_, rfl⟩
end Go.Proofs.YtnekhaacapdmfaaDoor
namespace Go.Proofs.YtnekhaacapdmfaaDoor
open Go.RowKit

def makeFault (a b : List ByteArray) (n : Int) : Int := if checkedFault a b ≠ 0 then checkedFault a b else cutFault (script a b) n
def makeR (a b : List ByteArray) (n : Int) : List Hunk := if checkedFault a b = 0 then cutR (script a b) n else []
theorem str_bne_true {x y : ByteArray} (h : x ≠ y) : (x.toList != y.toList) = true := by
  have := str_beq_false h
  simp only [bne, this, Bool.not_false]
theorem size_str (w : World) : (sizeOf (Tryd.prog.elem 62)).run Tryd.prog w = .ok 1 w := by kernel_rfl
/-- 'a[i:j]' of texts, as a run -/
theorem slice_str {w0 : World} {O : Nat → Prop} {a : Option Addr} {cap : Nat} {l : List ByteArray} (h : Rdv w0 O (.slice a l.length cap) l) (i j : Nat) (hij : i ≤ j) (hj : j ≤ l.length) :
    ∃ b, (∀ (x y : Int) (w : World), x = i → y = j → (Instr.slice 62 (.slice a l.length cap) (some (.int .i64 x)) (some (.int .i64 y)) none).run Tryd.prog w = .ok (.slice b (j - i) (cap - i)) w) ∧
      (∀ (x : Int) (w : World), x = i → j = l.length → (Instr.slice 62 (.slice a l.length cap) (some (.int .i64 x)) none none).run Tryd.prog w = .ok (.slice b (j - i) (cap - i)) w) ∧
      Rdv w0 O (.slice b (j - i) (cap - i)) ((l.drop i).take (j - i)) := by
  have hr := rdv_sliced h i j hij hj
  obtain ⟨b, hb⟩ := sliced_isSlice a i j cap 1
  obtain ⟨a', cap', e, h1, h2, h3⟩ := rdv_slice h
  simp only [Value.slice.injEq, true_and] at e
  obtain ⟨rfl, rfl⟩ := e
  refine ⟨b, ?_, ?_, hb ▸ hr⟩
  · rintro x y w rfl rfl
    rw [run_slice_lh w 62 a l.length cap (by kernel_rfl) .i64 .i64 _ _ (by omega) (by omega) (by omega), size_str]
    simp only [Result.andThen_ok, Int.toNat_natCast]
    rw [hb]
  · rintro x w rfl rfl
    rw [run_slice_l w 62 a l.length cap (by kernel_rfl) .i64 _ (by omega) (by omega), size_str]
    simp only [Result.andThen_ok, Int.toNat_natCast]
    rw [hb]

end Go.Proofs.YtnekhaacapdmfaaDoor
namespace Go.Proofs.YtnekhaacapdmfaaDoor
open Go.RowKit

theorem elems_list {α : Type} [Dat α] {w : World} {O : Nat → Prop} {a : Option Addr} {l : List (List α)} (h : Elems w O a l) {i : Nat} {x : List α} (hx : l[i]? = some x) :
    ∃ b off v, a = some ⟨b, off, none⟩ ∧ ¬ O b ∧ b < w.heap.size ∧ w.cell? ⟨b, off + i, none⟩ = some v ∧ Rdv w O v x := by
  obtain ⟨b, off, es, ha, hb, hcs, hr⟩ := h i x hx
  obtain ⟨v, rfl⟩ : ∃ v, es = [v] := by
    have hl : es.length = 1 := Dat.len hr
    match es, hl with
    | [v], _ => exact ⟨v, rfl⟩
  refine ⟨b, off, v, ha, hb, hcs.lt (by simp), ?_, hr⟩
  have := hcs 0 v rfl
  simpa [Dat.n] using this
theorem flatten_take {l : List (List ByteArray)} {k : Nat} {x : List ByteArray} (hx : l[k]? = some x) : (l.take (k + 1)).flatten = (l.take k).flatten ++ x := by
  rw [List.take_add_one, hx]; simp
def totalOf (l : List (List ByteArray)) (k : Nat) : Nat := (l.take k).flatten.length
theorem flatten_take_le (l : List (List ByteArray)) (k : Nat) : (l.take k).flatten.length ≤ l.flatten.length := by
  have h : ((l.take k) ++ (l.drop k)).flatten.length = l.flatten.length := by rw [List.take_append_drop]
  rw [List.flatten_append, List.length_append] at h
  omega
theorem rd_str_any (w : World) (O O' : Nat → Prop) : ∀ cs (y : ByteArray), Dat.rd w O cs y → Dat.rd w O' cs y := fun _ _ h => h

end Go.Proofs.YtnekhaacapdmfaaDoor
namespace Go.Proofs.YtnekhaacapdmfaaDoor
open Go.RowKit

theorem own_shape {α : Type} [Dat α] {e : TypeId} {w : World} {O : Nat → Prop} {v : Value} {l : List α} (h : Own e w O v l) : ∃ a c, v = .slice a l.length c ∧ c ≤ maxLen := by
  obtain ⟨xs, hx, _⟩ := h
  rcases hx.2 with ⟨h, h0⟩ | ⟨g, cap, cur, h, _, _, _, hm, _⟩
  · exact ⟨none, 0, by rw [h, h0], Nat.zero_le _⟩
  · exact ⟨_, _, h, hm⟩

end Go.Proofs.YtnekhaacapdmfaaDoor
namespace Go.Proofs.YtnekhaacapdmfaaDoor
open Go.RowKit

theorem those_signs {l : List Mark} (h : scriptFault l = 0) {k : Nat} {x : Mark} (hx : l[k]? = some x) : x.sign = 32 ∨ x.sign = 45 ∨ x.sign = 43 := by
  have := (scriptFault_zero.1 h).2 x (List.mem_of_getElem? hx)
  unfold markFault at this
  by_cases h1 : x.sign ≠ 32 ∧ x.sign ≠ 45 ∧ x.sign ≠ 43
  · rw [if_pos h1] at this; simp at this
  · omega

end Go.Proofs.YtnekhaacapdmfaaDoor
namespace Go.Proofs.YtnekhaacapdmfaaDoor
open Go.RowKit

theorem nl_mem {s : ByteArray} {k : Nat} (hlt : k < s.size) (h : (((s[k]'hlt).toNat : Int) == 10) = true) : hasNl s = true := by
  unfold hasNl
  have h1 : (s[k]'hlt).toNat = 10 := by have := eq_of_beq h; omega
  have h2 : s[k]'hlt = (10 : UInt8) := UInt8.toNat_inj.1 h1
  have h3 : s.data[k]'hlt = (10 : UInt8) := h2
  rw [List.contains_iff_mem, Array.mem_toList_iff]
  rw [← h3]
  exact Array.getElem_mem _
theorem nl_none {s : ByteArray} (h : ∀ (j : Nat) (hj : j < s.size), (((s[j]'hj).toNat : Int) == 10) = false) : hasNl s = false := by
  unfold hasNl
  rw [Bool.eq_false_iff]
  intro e
  rw [List.contains_iff_mem, Array.mem_toList_iff] at e
  obtain ⟨j, hj, e⟩ := Array.mem_iff_getElem.1 e
  have := h j hj
  have h2 : s[j]'hj = (10 : UInt8) := e
  rw [h2] at this
  exact absurd this (by decide)

theorem firstOf_bad {α : Type} (f : α → Int) : ∀ (l : List α) (k : Nat) (x : α), (∀ y ∈ l.take k, f y = 0) → l[k]? = some x → f x ≠ 0 → firstOf f l = f x
  | [], _, _, _, h, _ => by simp at h
  | y :: r, 0, x, _, h, hx => by
    simp only [List.getElem?_cons_zero, Option.some.injEq] at h
    subst h
    rw [firstOf, if_neg hx]
  | y :: r, k + 1, x, ha, h, hx => by
    rw [firstOf, if_pos (ha y (by simp))]
    exact firstOf_bad f r k x (fun z hz => ha z (by simp [hz])) (by simpa using h) hx
theorem take_all_succ {α : Type} {p : α → Prop} {l : List α} {k : Nat} {x : α} (h : ∀ y ∈ l.take k, p y) (hx : l[k]? = some x) (hp : p x) : ∀ y ∈ l.take (k + 1), p y := by
  intro y hy
  rw [List.take_add_one, hx] at hy
  rcases List.mem_append.1 hy with h' | h'
  · exact h y h'
  · simp at h'; rw [h']; exact hp

end Go.Proofs.YtnekhaacapdmfaaDoor
