/-
  PARTS: THE WALKS of unified.Reader's Open and mark.; THE WALK of unified.Reader's Line.; THE WALK of the document's Parts (a text of its own: no function of layers 1 to 9 in it).; THE WALKS of the document's LineFault, LinesFault, ScriptFault.; A SLICE OF A SLICE, as a run, at whatever element type.; TEXTS IN PARTS: small laws on rows of strings (light: no function of layers 1 to 9).; THE WALKS of the document's Parts, SplitOf, JoinOf, and of line.Split, line.Join.
-/
import Derived.Test.YtmojaahkcpgfkaaGreatDoorPackGu5
import Derived.Test.YtmojaahkcpgfkaaGreatDoorPackGu4
import Derived.Deep.RegionHeld3
import Derived.Deep.Cut
import Derived.Test.YtmojaahkcpgfkaaGreatDoorPackGu1
import Derived.Test.YtmojaahkcpgfkaaGreatDoorPackGu2
namespace Go.Proofs.YtmojaahkcpgfkaaGreatDoor
open Go.RowKit

def opnB (o n : Nat) : Bool := decide (0 < o) || decide (0 < n)
theorem opn_true {o n : Nat} (h : 0 < o ∨ 0 < n) : opnB o n = true := by unfold opnB; simpa using h
theorem opn_false {o n : Nat} (h : ¬ (0 < o ∨ 0 < n)) : opnB o n = false := by
  unfold opnB
  rw [decide_eq_false (by omega), decide_eq_false (by omega)]; rfl
set_option maxHeartbeats 1000000 in
theorem rd_open (B : Nat) (v : Value) (o n : Nat) (w : World) (h : Blk3 w B 73 v (.int .i64 o) (.int .i64 n)) :
    Calls Tryz.prog 33 #[.pointer (some ⟨B, 0, none⟩)] w fun e w' => e = .returned (.bool (opnB o n)) ∧ w' = w := by
  obtain ⟨c0, c1, c2⟩ := h.cell
  by_cases ho : 0 < o
  · have HB := Lib.hid (opn_true (o := o) (n := n) (.inl ho))
    have t1 : decide ((0 : Int) < (o : Int)) = true := decide_eq_true (by omega)
    have t1n : decide (0 < o) = true := decide_eq_true ho
    go_enter Tryz.func33, Tryz.ntmps33
    go_wp2_with fail
    go_ret
    exact ⟨by rw [HB.out]; rfl, rfl⟩
  · have t1 : decide ((0 : Int) < (o : Int)) = false := decide_eq_false (by omega)
    have t1n : decide (0 < o) = false := decide_eq_false ho
    by_cases hn : 0 < n
    · have HB := Lib.hid (opn_true (o := o) (n := n) (.inr hn))
      have t2 : decide ((0 : Int) < (n : Int)) = true := decide_eq_true (by omega)
      have t2n : decide (0 < n) = true := decide_eq_true hn
      go_enter Tryz.func33, Tryz.ntmps33
      go_wp2_with fail
      go_ret
      exact ⟨by rw [HB.out]; rfl, rfl⟩
    · have HB := Lib.hid (opn_false (o := o) (n := n) (by omega))
      have t2 : decide ((0 : Int) < (n : Int)) = false := decide_eq_false (by omega)
      have t2n : decide (0 < n) = false := decide_eq_false hn
      go_enter Tryz.func33, Tryz.ntmps33
      go_wp2_with fail
      go_ret
      exact ⟨by rw [HB.out]; rfl, rfl⟩
/-- what a line's reading leaves -/
def LinePost (W0 B : Nat) (hs : List Hunk) (o n : Nat) (s : List UInt8) (w : World) (e : Ending) (w' : World) : Prop :=
  Chg (RdC W0 B) w w' ∧ match readLine hs o n s with
  | none => e = .returned (.bool false)
  | some (hs', o', n') => e = .returned (.bool true) ∧ ∃ v', RdrAt w' W0 B v' hs' o' n'
theorem linePost_no {W0 B o n : Nat} {hs : List Hunk} {s : List UInt8} {w w' : World} {e : Ending} (hr : readLine hs o n s = none) (he : e = .returned (.bool false)) (hc : Chg (RdC W0 B) w w') : LinePost W0 B hs o n s w e w' :=
  ⟨hc, by rw [hr]; exact he⟩
theorem linePost_yes {W0 B o n o' n' : Nat} {hs hs' : List Hunk} {s : List UInt8} {w w' : World} {e : Ending} (hr : readLine hs o n s = some (hs', o', n')) (he : e = .returned (.bool true)) (hc : Chg (RdC W0 B) w w') (hR : ∃ v', RdrAt w' W0 B v' hs' o' n') : LinePost W0 B hs o n s w e w' :=
  ⟨hc, by rw [hr]; exact ⟨he, hR⟩⟩
theorem rl_nil {hs : List Hunk} {o n : Nat} (h : 0 < o ∨ 0 < n) : readLine hs o n [] = none := by unfold readLine; rw [if_pos h]
theorem rl_cons {hs : List Hunk} {o n : Nat} (h : 0 < o ∨ 0 < n) (c : UInt8) (r : List UInt8) : readLine hs o n (c :: r) = if c = 32 ∧ 0 < o ∧ 0 < n then some (addMark hs ⟨32, toB r⟩, o - 1, n - 1)
      else if c = 45 ∧ 0 < o then some (addMark hs ⟨45, toB r⟩, o - 1, n)
      else if c = 43 ∧ 0 < n then some (addMark hs ⟨43, toB r⟩, o, n - 1) else none := by unfold readLine; rw [if_pos h]
theorem byte_ne_int {c d : UInt8} {k : Int} (h : c ≠ d) (hd : (d.toNat : Int) = k) : ((c.toNat : Int) == k) = false := by
  simp only [beq_eq_false_iff_ne, ne_eq]
  intro e
  exact h (UInt8.toNat_inj.1 (by omega))

set_option maxHeartbeats 2000000 in
set_option maxRecDepth 100000 in
theorem reader_mark (W0 B : Nat) (v : Value) (hs : List Hunk) (o n : Nat) (s : ByteArray) (w : World) (h : RdrAt w W0 B v hs o n) (hopen : 0 < o ∨ 0 < n) (hne : hs ≠ []) (hs1 : s.size ≤ 1000000000) (hon : o ≤ 1000000 ∧ n ≤ 1000000)
    (hb : hs.length ≤ 1000000) (hml : ∀ h ∈ hs, h.marks.length ≤ 1000000) :
    Calls Tryz.prog 49 #[.pointer (some ⟨B, 0, none⟩), .string s] w (LinePost W0 B hs o n s.data.toList w) := by
  cases hsl : s.data.toList with
  | nil =>
    have HR := Lib.hid (rl_nil (hs := hs) hopen)
    have t1 : (s.toList == []) = true := by rw [Lib.toList_data, hsl]; rfl
    have t2 : s.toList.isEmpty = true := by rw [Lib.toList_data, hsl]; rfl
    have hsz : s.size = 0 := by rw [Lib.size_eq, hsl]; rfl
    clear hsl hopen hne hml
    go_enter Tryz.func49, Tryz.ntmps49
    go_wp2_with fail
    go_ret
    exact linePost_no HR.out rfl (Chg.refl _ _)
  | cons c r =>
    obtain ⟨init, q, mv, xs, rfl, hlast⟩ : ∃ init q mv xs, hs = init ++ [q] ∧ OwnLast 42 39 w (RdO W0 B) v init q mv xs := by
      rcases h.rows with ⟨q, _⟩ | q
      · exact absurd q hne
      · exact q
    have hbox := h.box
    have hbase := h.base
    have hqm := hml q (by simp)
    have hil : init.length ≤ 1000000 := by rw [List.length_append] at hb; omega
    obtain ⟨g, gcap, rfl, hg1, hg2, hg3, hg4, m2, m0, m1, hfr⟩ := hlast.shape
    have HR := Lib.hid (rl_cons (hs := init ++ [q]) hopen c r)
    have t1 : (s.toList == []) = false := by rw [Lib.toList_data, hsl]; rfl
    have t2 : s.toList.isEmpty = false := by rw [Lib.toList_data, hsl]; rfl
    have hpos : 0 < s.size := by rw [Lib.size_eq, hsl]; simp
    have hc0 : s[0]'hpos = c := by
      have : s.data.toList[0]? = some (s[0]'hpos) := by rw [Array.getElem?_toList, Array.getElem?_eq_getElem hpos]; rfl
      rw [hsl] at this
      injection this with this
      exact this.symm
    have hsx : ∀ wx, (Instr.index 9 (.string s) (.int .i64 0)).run Tryz.prog wx = .ok (.int .u8 c.toNat) wx := fun wx => by
      rw [run_index_string _ _ _ _ _ Tryz.underlying9, dif_pos ⟨by omega, by omega⟩]
      simp only [Int.toNat_zero, hc0]
    have htx : (s.extract 1 s.size) = toB r := by
      apply ByteArray.ext
      apply Array.toList_inj.1
      rw [Lib.extract_data, hsl, toB_data, List.take_of_length_le (by rw [List.length_drop, Lib.size_eq, hsl]; simp)]
      rfl
    have h1s : (1 : Int) ≤ (s.size : Int) := by omega
    have htz : (toB r).size ≤ maxLen := by rw [toB_size', ]; have := Lib.size_eq s; rw [hsl] at this; simp at this; unfold maxLen; omega
    obtain ⟨tx, htxe⟩ : ∃ tx, toB r = tx := ⟨_, rfl⟩
    rw [htxe] at htx htz HR
    clear hsl hne hml hb hc0 htxe h
    go_enter Tryz.func49, Tryz.ntmps49
    go_wp2_with fail
    refine wp_region_held_drew (S := fun w' => Chg Never w w') (by kernel_rfl) (Chg.refl Never w).drew (fun hH => ?_)
    refine' wpAnyH_take (i := 0) ?hi0 (by kernel_rfl) (by kernel_rfl) (by kernel_rfl) ?hQ0 (Or.inl ⟨?hw0, ?hy0⟩) (by assumption) ?_
    case hi0 => (simp only [List.getElem?_toArray, List.getElem?_cons_zero]; rfl)
    case hQ0 => exact fun _ _ _ h => h
    case hw0 => rfl
    case hy0 => (intro w' hSw; (try dsimp only at hSw); go_simp; all_goals with_reducible rfl)
    try simp only [Act.put, List.setIfInBounds_toArray, List.set_cons_zero, List.set_cons_succ]
    refine' wpAnyH_take (i := 1) ?hi1 (by kernel_rfl) (by kernel_rfl) (by kernel_rfl) ?hQ1 (Or.inl ⟨?hw1, ?hy1⟩) (by assumption) ?_
    case hi1 => (simp only [List.getElem?_toArray, List.getElem?_cons_succ, List.getElem?_cons_zero]; rfl)
    case hQ1 => exact fun _ _ _ h => h
    case hw1 => rfl
    case hy1 => (intro w' hSw; (try dsimp only at hSw); go_simp; all_goals with_reducible rfl)
    try simp only [Act.put, List.setIfInBounds_toArray, List.set_cons_zero, List.set_cons_succ]
    refine' wpAnyH_take (i := 2) ?hi2 (by kernel_rfl) (by kernel_rfl) (by kernel_rfl) ?hQ2 (Or.inl ⟨?hw2, ?hy2⟩) (by assumption) ?_
    case hi2 => (simp only [List.getElem?_toArray, List.getElem?_cons_succ, List.getElem?_cons_zero]; rfl)
    case hQ2 => exact fun _ _ _ h => h
    case hw2 => rfl
    case hy2 => (intro w' hSw; (try dsimp only at hSw); go_simp; all_goals with_reducible rfl)
    try simp only [Act.put, List.setIfInBounds_toArray, List.set_cons_zero, List.set_cons_succ]
    refine' wpAnyH_take (i := 3) ?hi3 (by kernel_rfl) (by kernel_rfl) (by kernel_rfl) ?hQ3 (Or.inl ⟨?hw3, ?hy3⟩) (by assumption) ?_
    case hi3 => (simp only [List.getElem?_toArray, List.getElem?_cons_succ, List.getElem?_cons_zero]; rfl)
    case hQ3 => exact fun _ _ _ h => h
    case hw3 => rfl
    case hy3 => (intro w' hSw; (try dsimp only at hSw); go_simp; all_goals with_reducible rfl)
    try simp only [Act.put, List.setIfInBounds_toArray, List.set_cons_zero, List.set_cons_succ]
    refine' wpAnyH_take (i := 4) ?hi4 (by kernel_rfl) (by kernel_rfl) (by kernel_rfl) ?hQ4 (Or.inl ⟨?hw4, ?hy4⟩) (by assumption) ?_
    case hi4 => (simp only [List.getElem?_toArray, List.getElem?_cons_succ, List.getElem?_cons_zero]; rfl)
    case hQ4 => exact fun _ _ _ h => h
    case hw4 => rfl
    case hy4 => (intro w' hSw; (try dsimp only at hSw); go_simp; all_goals with_reducible rfl)
    try simp only [Act.put, List.setIfInBounds_toArray, List.set_cons_zero, List.set_cons_succ]
    refine wpAnyH_ready (rs := [5]) (by kernel_rfl) (by simp) ?_
    refine AllReadyH.cons rfl (fun K hK => ?_) AllReadyH.nil
    go_simp
    refine hK.out _ _ ?_ (fun hH => ?_)
    · exact Chg.alloc (by assumption) _
    clear hK K
    try simp only [Act.put, List.setIfInBounds_toArray, List.set_cons_zero, List.set_cons_succ]
    refine wpAnyH_ready (rs := [6]) (by kernel_rfl) (by simp) ?_
    refine AllReadyH.cons rfl (fun K hK => ?_) AllReadyH.nil
    go_simp
    refine hK.out _ _ ?_ (fun hH => ?_)
    · exact ((Chg.refl Never w).alloc _).drew
    clear hK K
    try simp only [Act.put, List.setIfInBounds_toArray, List.set_cons_zero, List.set_cons_succ]
    refine wpAnyH_done (by kernel_rfl) ?_ _
    have hA : Chg Never w (w.alloc (.cells #[.int .u8 c.toNat, .string tx] 39)).drew := ((Chg.refl Never w).alloc _).drew
    have hxb := Blk2.new w 39 (.int .u8 c.toNat) (.string tx)
    have hxb : Blk2 (w.alloc (.cells #[.int .u8 c.toNat, .string tx] 39)).drew w.heap.size 39 (.int .u8 c.toNat) (.string tx) := hxb
    have hmlt := own_block_lt hlast.marks
    have hMne : w.heap.size ≠ B := by have := hbox.lt; omega
    have hMg : w.heap.size ≠ g := by omega
    have hbox := hbox.keep hA (fun h => h)
    have hlast := hlast.keep hA
    have hM1 : w.heap.size < (w.alloc (.cells #[.int .u8 c.toNat, .string tx] 39)).drew.heap.size := hxb.lt
    have hA2 := hA
    obtain ⟨M, hM⟩ : ∃ M, w.heap.size = M := ⟨_, rfl⟩
    generalize (w.alloc (.cells #[.int .u8 c.toNat, .string tx] 39)).drew = w1 at hA hA2 hxb hbox hlast hM1 ⊢
    have hmM : ∀ k, mv.ownBlock = some k → k < M := fun k hk => by rw [← hM]; exact hmlt k hk
    rw [hM] at hxb hMne hMg hM1 ⊢
    have HM := Lib.hid hM
    clear hM hmlt hA m2 m0 m1 hfr hg1 hsx
    obtain ⟨x0, x1⟩ := hxb.cell
    obtain ⟨c0, c1, c2⟩ := hbox.cell
    have hf1 := hbox.free 1
    have hf2 := hbox.free 2
    by_cases h32 : c = 32
    · have q32 : ((c.toNat : Int) == 32) = true := by rw [h32]; rfl
      have q45 : ((c.toNat : Int) == 45) = false := by rw [h32]; rfl
      have q43 : ((c.toNat : Int) == 43) = false := by rw [h32]; rfl
      by_cases ho : 0 < o
      · have tO : decide ((0 : Int) < (o : Int)) = true := decide_eq_true (by omega)
        have ton : decide (0 < o) = true := decide_eq_true ho
        by_cases hn : 0 < n
        · have hr : Hid (readLine (init ++ [q]) o n (c :: r) = some (init ++ [⟨q.old, q.new, q.marks ++ [⟨(c.toNat : Int), tx⟩]⟩], o - 1, n - 1)) := by
            rw [Hid, HR.out, if_pos ⟨h32, ho, hn⟩, add_mark, h32]; rfl
          obtain ⟨o1, rfl⟩ : ∃ o1, o = o1 + 1 := ⟨o - 1, by omega⟩
          obtain ⟨n1, rfl⟩ : ∃ n1, n = n1 + 1 := ⟨n - 1, by omega⟩
          clear h32 ho hn tO ton HR hopen
          have eo : (((o1 + 1 : Nat) : Int) - 1) = (o1 : Int) := by omega
          go_upto_region 12 with fail
          clear eo
          have hboxS : Blk3 ((w1.setCell ⟨B, 1, none⟩ (.int .i64 (o1 : Nat))).setCell ⟨B, 2, none⟩ (.int .i64 (n1 : Nat))) B 73 (.slice (some ⟨g, 0, none⟩) (init.length + 1) gcap) (.int .i64 (o1 : Nat)) (.int .i64 (n1 : Nat)) := (hbox.set1 _).set2 _
          have hS : Chg (fun k => k = B) w1 ((w1.setCell ⟨B, 1, none⟩ (.int .i64 (o1 : Nat))).setCell ⟨B, 2, none⟩ (.int .i64 (n1 : Nat))) := ((Chg.refl (fun k => k = B) w1).setCell (p := ⟨B, 1, none⟩) (.inr rfl) _).setCell (p := ⟨B, 2, none⟩) (.inr rfl) _
          have hlastS := hlast.keepO (O'' := RdO W0 B) hS (fun _ _ hk => .inr hk) (fun _ _ hk => hk)
          have x0 := hS.cell x0 hMne
          have x1 := hS.cell x1 hMne
          have hMS := Nat.lt_of_lt_of_le hM1 hS.size
          have hcS : Chg (RdC W0 B) w ((w1.setCell ⟨B, 1, none⟩ (.int .i64 (o1 : Nat))).setCell ⟨B, 2, none⟩ (.int .i64 (n1 : Nat))) := (hA2.mono (fun _ _ h => h.elim)).trans (hS.mono (fun k _ hk => .inl hk))
          clear hbox hlast hA2 hM1 hxb c0 c1 c2 hf1 hf2
          generalize (w1.setCell ⟨B, 1, none⟩ (.int .i64 (o1 : Nat))).setCell ⟨B, 2, none⟩ (.int .i64 (n1 : Nat)) = w2 at hboxS hS hlastS x0 x1 hMS hcS ⊢
          clear hS
          obtain ⟨g', gcap', hq, hg1, -, -, -, m2, m0, m1, hfr⟩ := hlastS.shape
          simp only [Value.slice.injEq, Option.some.injEq, Addr.mk.injEq, and_true, true_and] at hq
          obtain ⟨rfl, rfl⟩ := hq
          obtain ⟨c0, -, -⟩ := hboxS.cell
          have sw : IntKind.i64.wrap ((init.length : Int) + 1 - 1) = init.length := by rw [show (init.length : Int) + 1 - 1 = (init.length : Int) by omega]; exact IntWalk.i64_in _ (by omega)
          have sw2 : IntKind.i64.wrap (init.length : Int) = init.length := IntWalk.i64_in _ (by omega)
          have si : (init.length : Int) < (init.length : Int) + 1 := by omega
          go_quiet (fail)
          clear sw sw2 si c0
          have hq3 : Chg Never w2 (w2.drewN nq) := (Chg.refl Never w2).drewN nq
          have hlast3 := hlastS.keep hq3
          have hbox3 := hboxS.keep hq3 (fun h => h)
          have x0 : (w2.drewN nq).cell? ⟨M, 0, none⟩ = some (.int .u8 c.toNat) := x0
          have x1 : (w2.drewN nq).cell? ⟨M, 1, none⟩ = some (.string tx) := x1
          have m2 : (w2.drewN nq).cell? ⟨g, init.length * 3 + 2, none⟩ = some mv := m2
          have hfr : ∀ j, (w2.drewN nq).frozen? ⟨g, j, none⟩ = false := hfr
          have hg1 : g < (w2.drewN nq).heap.size := hg1
          have hc3 : Chg (RdC W0 B) w (w2.drewN nq) := hcS.trans (hq3.mono (fun _ _ h => h.elim))
          clear hlastS hboxS hq3 m0 m1 hcS
          generalize w2.drewN nq = w3 at hlast3 hbox3 x0 x1 m2 hfr hg1 hc3 ⊢
          go_wp2_with fail
          have hcd : Chg Never w3 w3.drew := (Chg.refl Never w3).drew
          have hmL := hlast3.keep hcd
          have hboxD := hbox3.keep hcd (fun h => h)
          have x0 : w3.drew.cell? ⟨M, 0, none⟩ = some (.int .u8 c.toNat) := x0
          have x1 : w3.drew.cell? ⟨M, 1, none⟩ = some (.string tx) := x1
          have m2 : w3.drew.cell? ⟨g, init.length * 3 + 2, none⟩ = some mv := m2
          have hfr : ∀ j, w3.drew.frozen? ⟨g, j, none⟩ = false := hfr
          have hg1 : g < w3.drew.heap.size := hg1
          have hcD : Chg (RdC W0 B) w w3.drew := hc3.trans (hcd.mono (fun _ _ h => h.elim))
          have hgM : ¬ OwnB mv g := by
            obtain ⟨_, _, qq, _⟩ := hmL.marks
            exact fun hh => qq g hh (.inr rfl)
          have hBM : ¬ OwnB mv B := by
            obtain ⟨_, _, qq, _⟩ := hmL.marks
            exact fun hh => qq B hh (.inl (.inr rfl))
          have hxM : ¬ OwnB mv M := fun hh => Nat.lt_irrefl _ (hmM M hh)
          have hgB : g ≠ B := fun e => hg2 (.inr e)
          have hgW : W0 ≤ g := by
            rcases Nat.lt_or_ge g W0 with h | h
            · exact absurd (.inl h) hg2
            · exact h
          have hmW : ∀ k, OwnB mv k → W0 ≤ k := fun k hk => by
            obtain ⟨_, _, qq, _⟩ := hmL.marks
            rcases Nat.lt_or_ge k W0 with h | h
            · exact absurd (.inl (.inl h)) (qq k hk)
            · exact h
          have hO : ∀ k, (RdO W0 B k ∨ (Value.slice (some ⟨g, 0, none⟩) (init.length + 1) gcap).ownBlock = some k) → k < w3.drew.heap.size := by
            have hBl := hboxD.lt
            rintro k ((h | rfl) | h)
            · have := hcD.size; omega
            · exact hBl
            · cases h; exact hg1
          have s0 : (0 : Int) ≤ (c.toNat : Int) := by omega
          have s1 : (c.toNat : Int) < 256 := by have := c.toNat_lt; omega
          have hlm : q.marks.length ≤ 1000000000 := by omega
          clear hlast3 hbox3 hcd hc3
          go_region_law ((refine step_push (by rfl) _ _ 40 (by rfl) elemOk_mark (O := fun k => RdO W0 B k ∨ (Value.slice (some ⟨g, 0, none⟩) (init.length + 1) gcap).ownBlock = some k) (l := q.marks) (y := ⟨(c.toNat : Int), tx⟩) (by rfl) (by rfl) (by simp) hmL.marks (rd_mark _ _ _ tx s0 s1 htz) hO hlm ?_; intro v' w5 hown2 hc2 hk2; obtain ⟨ad, nn, cc, rfl⟩ := own_slice hk2; have hfr5 : w5.frozen? ⟨g, init.length * 3 + 2, none⟩ = false := (hc2.frozen (p := ⟨g, init.length * 3 + 2, none⟩) hg1 hgM).trans (hfr _); have hcl5 : w5.cell? ⟨g, init.length * 3 + 2, none⟩ = some mv := hc2.cell (p := ⟨g, init.length * 3 + 2, none⟩) m2 hgM; have hb0 : w5.cell? ⟨M, 0, none⟩ = some (.int .u8 c.toNat) := hc2.cell (p := ⟨M, 0, none⟩) x0 hxM; have hb1 : w5.cell? ⟨M, 1, none⟩ = some (.string tx) := hc2.cell (p := ⟨M, 1, none⟩) x1 hxM))
          all_goals go_wp2_with fail
          all_goals
            have hst := OwnLast.stored hmL hown2 hc2 hk2
            have hbF := (hboxD.keep hc2 hBM).keep ((Chg.refl (fun k => k = g) w5).setCell (p := ⟨g, init.length * 3 + 2, none⟩) (.inr rfl) (.slice (some ad) nn cc)) (fun h => hgB h.symm)
            have hcF : Chg (RdC W0 B) w (w5.setCell ⟨g, init.length * 3 + 2, none⟩ (.slice (some ad) nn cc)) := (hcD.trans (hc2.mono (O' := RdC W0 B) (fun k _ hk => .inr (hmW k hk)))).setCell (.inr (show RdC W0 B g from .inr hgW)) _
            go_ret
            exact linePost_yes hr.out rfl hcF ⟨_, ⟨Nat.le_trans hbase hcF.size, hbF, .inr ⟨init, _, _, _, rfl, hst⟩⟩⟩
        · have tn : decide ((0 : Int) < (n : Int)) = false := decide_eq_false (by omega)
          have tnn : decide (0 < n) = false := decide_eq_false hn
          have hr : Hid (readLine (init ++ [q]) o n (c :: r) = none) := by
            rw [Hid, HR.out]
            rw [if_neg (fun q => hn q.2.2), if_neg (fun q => by rw [h32] at q; exact absurd q.1 (by decide)), if_neg (fun q => by rw [h32] at q; exact absurd q.1 (by decide))]
          have hcN : Chg (RdC W0 B) w w1 := hA2.mono (fun _ _ h => h.elim)
          clear HR hopen hlast hbox hA2
          go_wp2_with fail
          go_ret
          exact linePost_no hr.out rfl hcN
      · have tO : decide ((0 : Int) < (o : Int)) = false := decide_eq_false (by omega)
        have ton : decide (0 < o) = false := decide_eq_false ho
        have hr : Hid (readLine (init ++ [q]) o n (c :: r) = none) := by
          rw [Hid, HR.out]
          rw [if_neg (fun q => ho q.2.1), if_neg (fun q => ho q.2), if_neg (fun q => by rw [h32] at q; exact absurd q.1 (by decide))]
        have hcN : Chg (RdC W0 B) w w1 := hA2.mono (fun _ _ h => h.elim)
        clear HR hopen hlast hbox hA2
        go_wp2_with fail
        go_ret
        exact linePost_no hr.out rfl hcN
    · have q32 : ((c.toNat : Int) == 32) = false := byte_ne_int h32 rfl
      by_cases h45 : c = 45
      · have q45 : ((c.toNat : Int) == 45) = true := by rw [h45]; rfl
        have q43 : ((c.toNat : Int) == 43) = false := by rw [h45]; rfl
        by_cases ho : 0 < o
        · have tO : decide ((0 : Int) < (o : Int)) = true := decide_eq_true (by omega)
          have hr : Hid (readLine (init ++ [q]) o n (c :: r) = some (init ++ [⟨q.old, q.new, q.marks ++ [⟨(c.toNat : Int), tx⟩]⟩], o - 1, n)) := by
            rw [Hid, HR.out, if_neg (fun q => h32 q.1), if_pos ⟨h45, ho⟩, add_mark, h45]; rfl
          obtain ⟨o1, rfl⟩ : ∃ o1, o = o1 + 1 := ⟨o - 1, by omega⟩
          clear h32 h45 ho tO HR hopen
          go_upto_region 12 with fail
          have hboxS : Blk3 (w1.setCell ⟨B, 1, none⟩ (.int .i64 (o1 : Nat))) B 73 (.slice (some ⟨g, 0, none⟩) (init.length + 1) gcap) (.int .i64 (o1 : Nat)) (.int .i64 (n : Nat)) := hbox.set1 _
          have hS : Chg (fun k => k = B) w1 (w1.setCell ⟨B, 1, none⟩ (.int .i64 (o1 : Nat))) := (Chg.refl (fun k => k = B) w1).setCell (p := ⟨B, 1, none⟩) (.inr rfl) _
          have hlastS := hlast.keepO (O'' := RdO W0 B) hS (fun _ _ hk => .inr hk) (fun _ _ hk => hk)
          have x0 := hS.cell x0 hMne
          have x1 := hS.cell x1 hMne
          have hMS := Nat.lt_of_lt_of_le hM1 hS.size
          have hcS : Chg (RdC W0 B) w (w1.setCell ⟨B, 1, none⟩ (.int .i64 (o1 : Nat))) := (hA2.mono (fun _ _ h => h.elim)).trans (hS.mono (fun k _ hk => .inl hk))
          clear hbox hlast hA2 hM1 hxb c0 c1 c2 hf1 hf2
          generalize w1.setCell ⟨B, 1, none⟩ (.int .i64 (o1 : Nat)) = w2 at hboxS hS hlastS x0 x1 hMS hcS ⊢
          clear hS
          obtain ⟨g', gcap', hq, hg1, -, -, -, m2, m0, m1, hfr⟩ := hlastS.shape
          simp only [Value.slice.injEq, Option.some.injEq, Addr.mk.injEq, and_true, true_and] at hq
          obtain ⟨rfl, rfl⟩ := hq
          obtain ⟨c0, -, -⟩ := hboxS.cell
          have sw : IntKind.i64.wrap ((init.length : Int) + 1 - 1) = init.length := by rw [show (init.length : Int) + 1 - 1 = (init.length : Int) by omega]; exact IntWalk.i64_in _ (by omega)
          have sw2 : IntKind.i64.wrap (init.length : Int) = init.length := IntWalk.i64_in _ (by omega)
          have si : (init.length : Int) < (init.length : Int) + 1 := by omega
          go_quiet (fail)
          clear sw sw2 si c0
          have hq3 : Chg Never w2 (w2.drewN nq) := (Chg.refl Never w2).drewN nq
          have hlast3 := hlastS.keep hq3
          have hbox3 := hboxS.keep hq3 (fun h => h)
          have x0 : (w2.drewN nq).cell? ⟨M, 0, none⟩ = some (.int .u8 c.toNat) := x0
          have x1 : (w2.drewN nq).cell? ⟨M, 1, none⟩ = some (.string tx) := x1
          have m2 : (w2.drewN nq).cell? ⟨g, init.length * 3 + 2, none⟩ = some mv := m2
          have hfr : ∀ j, (w2.drewN nq).frozen? ⟨g, j, none⟩ = false := hfr
          have hg1 : g < (w2.drewN nq).heap.size := hg1
          have hc3 : Chg (RdC W0 B) w (w2.drewN nq) := hcS.trans (hq3.mono (fun _ _ h => h.elim))
          clear hlastS hboxS hq3 m0 m1 hcS
          generalize w2.drewN nq = w3 at hlast3 hbox3 x0 x1 m2 hfr hg1 hc3 ⊢
          go_wp2_with fail
          have hcd : Chg Never w3 w3.drew := (Chg.refl Never w3).drew
          have hmL := hlast3.keep hcd
          have hboxD := hbox3.keep hcd (fun h => h)
          have x0 : w3.drew.cell? ⟨M, 0, none⟩ = some (.int .u8 c.toNat) := x0
          have x1 : w3.drew.cell? ⟨M, 1, none⟩ = some (.string tx) := x1
          have m2 : w3.drew.cell? ⟨g, init.length * 3 + 2, none⟩ = some mv := m2
          have hfr : ∀ j, w3.drew.frozen? ⟨g, j, none⟩ = false := hfr
          have hg1 : g < w3.drew.heap.size := hg1
          have hcD : Chg (RdC W0 B) w w3.drew := hc3.trans (hcd.mono (fun _ _ h => h.elim))
          have hgM : ¬ OwnB mv g := by
            obtain ⟨_, _, qq, _⟩ := hmL.marks
            exact fun hh => qq g hh (.inr rfl)
          have hBM : ¬ OwnB mv B := by
            obtain ⟨_, _, qq, _⟩ := hmL.marks
            exact fun hh => qq B hh (.inl (.inr rfl))
          have hxM : ¬ OwnB mv M := fun hh => Nat.lt_irrefl _ (hmM M hh)
          have hgB : g ≠ B := fun e => hg2 (.inr e)
          have hgW : W0 ≤ g := by
            rcases Nat.lt_or_ge g W0 with h | h
            · exact absurd (.inl h) hg2
            · exact h
          have hmW : ∀ k, OwnB mv k → W0 ≤ k := fun k hk => by
            obtain ⟨_, _, qq, _⟩ := hmL.marks
            rcases Nat.lt_or_ge k W0 with h | h
            · exact absurd (.inl (.inl h)) (qq k hk)
            · exact h
          have hO : ∀ k, (RdO W0 B k ∨ (Value.slice (some ⟨g, 0, none⟩) (init.length + 1) gcap).ownBlock = some k) → k < w3.drew.heap.size := by
            have hBl := hboxD.lt
            rintro k ((h | rfl) | h)
            · have := hcD.size; omega
            · exact hBl
            · cases h; exact hg1
          have s0 : (0 : Int) ≤ (c.toNat : Int) := by omega
          have s1 : (c.toNat : Int) < 256 := by have := c.toNat_lt; omega
          have hlm : q.marks.length ≤ 1000000000 := by omega
          clear hlast3 hbox3 hcd hc3
          go_region_law ((refine step_push (by rfl) _ _ 40 (by rfl) elemOk_mark (O := fun k => RdO W0 B k ∨ (Value.slice (some ⟨g, 0, none⟩) (init.length + 1) gcap).ownBlock = some k) (l := q.marks) (y := ⟨(c.toNat : Int), tx⟩) (by rfl) (by rfl) (by simp) hmL.marks (rd_mark _ _ _ tx s0 s1 htz) hO hlm ?_; intro v' w5 hown2 hc2 hk2; obtain ⟨ad, nn, cc, rfl⟩ := own_slice hk2; have hfr5 : w5.frozen? ⟨g, init.length * 3 + 2, none⟩ = false := (hc2.frozen (p := ⟨g, init.length * 3 + 2, none⟩) hg1 hgM).trans (hfr _); have hcl5 : w5.cell? ⟨g, init.length * 3 + 2, none⟩ = some mv := hc2.cell (p := ⟨g, init.length * 3 + 2, none⟩) m2 hgM; have hb0 : w5.cell? ⟨M, 0, none⟩ = some (.int .u8 c.toNat) := hc2.cell (p := ⟨M, 0, none⟩) x0 hxM; have hb1 : w5.cell? ⟨M, 1, none⟩ = some (.string tx) := hc2.cell (p := ⟨M, 1, none⟩) x1 hxM))
          all_goals go_wp2_with fail
          all_goals
            have hst := OwnLast.stored hmL hown2 hc2 hk2
            have hbF := (hboxD.keep hc2 hBM).keep ((Chg.refl (fun k => k = g) w5).setCell (p := ⟨g, init.length * 3 + 2, none⟩) (.inr rfl) (.slice (some ad) nn cc)) (fun h => hgB h.symm)
            have hcF : Chg (RdC W0 B) w (w5.setCell ⟨g, init.length * 3 + 2, none⟩ (.slice (some ad) nn cc)) := (hcD.trans (hc2.mono (O' := RdC W0 B) (fun k _ hk => .inr (hmW k hk)))).setCell (.inr (show RdC W0 B g from .inr hgW)) _
            go_ret
            exact linePost_yes hr.out rfl hcF ⟨_, ⟨Nat.le_trans hbase hcF.size, hbF, .inr ⟨init, _, _, _, rfl, hst⟩⟩⟩
        · have tO : decide ((0 : Int) < (o : Int)) = false := decide_eq_false (by omega)
          have ton : decide (0 < o) = false := decide_eq_false ho
          have hr : Hid (readLine (init ++ [q]) o n (c :: r) = none) := by
            rw [Hid, HR.out]
            rw [if_neg (fun q => ho q.2.1), if_neg (fun q => ho q.2), if_neg (fun q => by rw [h45] at q; exact absurd q.1 (by decide))]
          have hcN : Chg (RdC W0 B) w w1 := hA2.mono (fun _ _ h => h.elim)
          clear HR hopen hlast hbox hA2
          go_wp2_with fail
          go_ret
          exact linePost_no hr.out rfl hcN
      · have q45 : ((c.toNat : Int) == 45) = false := byte_ne_int h45 rfl
        by_cases h43 : c = 43
        · have q43 : ((c.toNat : Int) == 43) = true := by rw [h43]; rfl
          by_cases hn : 0 < n
          · have tn : decide ((0 : Int) < (n : Int)) = true := decide_eq_true (by omega)
            have hr : Hid (readLine (init ++ [q]) o n (c :: r) = some (init ++ [⟨q.old, q.new, q.marks ++ [⟨(c.toNat : Int), tx⟩]⟩], o, n - 1)) := by
              rw [Hid, HR.out, if_neg (fun q => h32 q.1), if_neg (fun q => h45 q.1), if_pos ⟨h43, hn⟩, add_mark, h43]; rfl
            obtain ⟨n1, rfl⟩ : ∃ n1, n = n1 + 1 := ⟨n - 1, by omega⟩
            clear h32 h45 h43 hn tn HR hopen
            go_upto_region 12 with fail
            have hboxS : Blk3 (w1.setCell ⟨B, 2, none⟩ (.int .i64 (n1 : Nat))) B 73 (.slice (some ⟨g, 0, none⟩) (init.length + 1) gcap) (.int .i64 (o : Nat)) (.int .i64 (n1 : Nat)) := hbox.set2 _
            have hS : Chg (fun k => k = B) w1 (w1.setCell ⟨B, 2, none⟩ (.int .i64 (n1 : Nat))) := (Chg.refl (fun k => k = B) w1).setCell (p := ⟨B, 2, none⟩) (.inr rfl) _
            have hlastS := hlast.keepO (O'' := RdO W0 B) hS (fun _ _ hk => .inr hk) (fun _ _ hk => hk)
            have x0 := hS.cell x0 hMne
            have x1 := hS.cell x1 hMne
            have hMS := Nat.lt_of_lt_of_le hM1 hS.size
            have hcS : Chg (RdC W0 B) w (w1.setCell ⟨B, 2, none⟩ (.int .i64 (n1 : Nat))) := (hA2.mono (fun _ _ h => h.elim)).trans (hS.mono (fun k _ hk => .inl hk))
            clear hbox hlast hA2 hM1 hxb c0 c1 c2 hf1 hf2
            generalize w1.setCell ⟨B, 2, none⟩ (.int .i64 (n1 : Nat)) = w2 at hboxS hS hlastS x0 x1 hMS hcS ⊢
            clear hS
            obtain ⟨g', gcap', hq, hg1, -, -, -, m2, m0, m1, hfr⟩ := hlastS.shape
            simp only [Value.slice.injEq, Option.some.injEq, Addr.mk.injEq, and_true, true_and] at hq
            obtain ⟨rfl, rfl⟩ := hq
            obtain ⟨c0, -, -⟩ := hboxS.cell
            have sw : IntKind.i64.wrap ((init.length : Int) + 1 - 1) = init.length := by rw [show (init.length : Int) + 1 - 1 = (init.length : Int) by omega]; exact IntWalk.i64_in _ (by omega)
            have sw2 : IntKind.i64.wrap (init.length : Int) = init.length := IntWalk.i64_in _ (by omega)
            have si : (init.length : Int) < (init.length : Int) + 1 := by omega
            go_quiet (fail)
            clear sw sw2 si c0
            have hq3 : Chg Never w2 (w2.drewN nq) := (Chg.refl Never w2).drewN nq
            have hlast3 := hlastS.keep hq3
            have hbox3 := hboxS.keep hq3 (fun h => h)
            have x0 : (w2.drewN nq).cell? ⟨M, 0, none⟩ = some (.int .u8 c.toNat) := x0
            have x1 : (w2.drewN nq).cell? ⟨M, 1, none⟩ = some (.string tx) := x1
            have m2 : (w2.drewN nq).cell? ⟨g, init.length * 3 + 2, none⟩ = some mv := m2
            have hfr : ∀ j, (w2.drewN nq).frozen? ⟨g, j, none⟩ = false := hfr
            have hg1 : g < (w2.drewN nq).heap.size := hg1
            have hc3 : Chg (RdC W0 B) w (w2.drewN nq) := hcS.trans (hq3.mono (fun _ _ h => h.elim))
            clear hlastS hboxS hq3 m0 m1 hcS
            generalize w2.drewN nq = w3 at hlast3 hbox3 x0 x1 m2 hfr hg1 hc3 ⊢
            go_wp2_with fail
            have hcd : Chg Never w3 w3.drew := (Chg.refl Never w3).drew
            have hmL := hlast3.keep hcd
            have hboxD := hbox3.keep hcd (fun h => h)
            have x0 : w3.drew.cell? ⟨M, 0, none⟩ = some (.int .u8 c.toNat) := x0
            have x1 : w3.drew.cell? ⟨M, 1, none⟩ = some (.string tx) := x1
            have m2 : w3.drew.cell? ⟨g, init.length * 3 + 2, none⟩ = some mv := m2
            have hfr : ∀ j, w3.drew.frozen? ⟨g, j, none⟩ = false := hfr
            have hg1 : g < w3.drew.heap.size := hg1
            have hcD : Chg (RdC W0 B) w w3.drew := hc3.trans (hcd.mono (fun _ _ h => h.elim))
            have hgM : ¬ OwnB mv g := by
              obtain ⟨_, _, qq, _⟩ := hmL.marks
              exact fun hh => qq g hh (.inr rfl)
            have hBM : ¬ OwnB mv B := by
              obtain ⟨_, _, qq, _⟩ := hmL.marks
              exact fun hh => qq B hh (.inl (.inr rfl))
            have hxM : ¬ OwnB mv M := fun hh => Nat.lt_irrefl _ (hmM M hh)
            have hgB : g ≠ B := fun e => hg2 (.inr e)
            have hgW : W0 ≤ g := by
              rcases Nat.lt_or_ge g W0 with h | h
              · exact absurd (.inl h) hg2
              · exact h
            have hmW : ∀ k, OwnB mv k → W0 ≤ k := fun k hk => by
              obtain ⟨_, _, qq, _⟩ := hmL.marks
              rcases Nat.lt_or_ge k W0 with h | h
              · exact absurd (.inl (.inl h)) (qq k hk)
              · exact h
            have hO : ∀ k, (RdO W0 B k ∨ (Value.slice (some ⟨g, 0, none⟩) (init.length + 1) gcap).ownBlock = some k) → k < w3.drew.heap.size := by
              have hBl := hboxD.lt
              rintro k ((h | rfl) | h)
              · have := hcD.size; omega
              · exact hBl
              · cases h; exact hg1
            have s0 : (0 : Int) ≤ (c.toNat : Int) := by omega
            have s1 : (c.toNat : Int) < 256 := by have := c.toNat_lt; omega
            have hlm : q.marks.length ≤ 1000000000 := by omega
            clear hlast3 hbox3 hcd hc3
            go_region_law ((refine step_push (by rfl) _ _ 40 (by rfl) elemOk_mark (O := fun k => RdO W0 B k ∨ (Value.slice (some ⟨g, 0, none⟩) (init.length + 1) gcap).ownBlock = some k) (l := q.marks) (y := ⟨(c.toNat : Int), tx⟩) (by rfl) (by rfl) (by simp) hmL.marks (rd_mark _ _ _ tx s0 s1 htz) hO hlm ?_; intro v' w5 hown2 hc2 hk2; obtain ⟨ad, nn, cc, rfl⟩ := own_slice hk2; have hfr5 : w5.frozen? ⟨g, init.length * 3 + 2, none⟩ = false := (hc2.frozen (p := ⟨g, init.length * 3 + 2, none⟩) hg1 hgM).trans (hfr _); have hcl5 : w5.cell? ⟨g, init.length * 3 + 2, none⟩ = some mv := hc2.cell (p := ⟨g, init.length * 3 + 2, none⟩) m2 hgM; have hb0 : w5.cell? ⟨M, 0, none⟩ = some (.int .u8 c.toNat) := hc2.cell (p := ⟨M, 0, none⟩) x0 hxM; have hb1 : w5.cell? ⟨M, 1, none⟩ = some (.string tx) := hc2.cell (p := ⟨M, 1, none⟩) x1 hxM))
            all_goals go_wp2_with fail
            all_goals
              have hst := OwnLast.stored hmL hown2 hc2 hk2
              have hbF := (hboxD.keep hc2 hBM).keep ((Chg.refl (fun k => k = g) w5).setCell (p := ⟨g, init.length * 3 + 2, none⟩) (.inr rfl) (.slice (some ad) nn cc)) (fun h => hgB h.symm)
              have hcF : Chg (RdC W0 B) w (w5.setCell ⟨g, init.length * 3 + 2, none⟩ (.slice (some ad) nn cc)) := (hcD.trans (hc2.mono (O' := RdC W0 B) (fun k _ hk => .inr (hmW k hk)))).setCell (.inr (show RdC W0 B g from .inr hgW)) _
              go_ret
              exact linePost_yes hr.out rfl hcF ⟨_, ⟨Nat.le_trans hbase hcF.size, hbF, .inr ⟨init, _, _, _, rfl, hst⟩⟩⟩
          · have tn : decide ((0 : Int) < (n : Int)) = false := decide_eq_false (by omega)
            have tnn : decide (0 < n) = false := decide_eq_false hn
            have hr : Hid (readLine (init ++ [q]) o n (c :: r) = none) := by
              rw [Hid, HR.out]
              rw [if_neg (fun q => h32 q.1), if_neg (fun q => h45 q.1), if_neg (fun q => hn q.2)]
            have hcN : Chg (RdC W0 B) w w1 := hA2.mono (fun _ _ h => h.elim)
            clear HR hopen hlast hbox hA2
            go_wp2_with fail
            go_ret
            exact linePost_no hr.out rfl hcN
        · have q43 : ((c.toNat : Int) == 43) = false := byte_ne_int h43 rfl
          have hr : Hid (readLine (init ++ [q]) o n (c :: r) = none) := by
            rw [Hid, HR.out]
            rw [if_neg (fun q => h32 q.1), if_neg (fun q => h45 q.1), if_neg (fun q => h43 q.1)]
          have hcN : Chg (RdC W0 B) w w1 := hA2.mono (fun _ _ h => h.elim)
          clear HR hopen hlast hbox hA2
          go_wp2_with fail
          go_ret
          exact linePost_no hr.out rfl hcN
end Go.Proofs.YtmojaahkcpgfkaaGreatDoor
namespace Go.Proofs.YtmojaahkcpgfkaaGreatDoor
open Go.RowKit

theorem lib_pre (s p : List UInt8) : (dropPre p s = none ∧ Lib.hasPrefix s p = false ∧ Lib.trimPrefix s p = s) ∨ ∃ r, dropPre p s = some r ∧ Lib.hasPrefix s p = true ∧ Lib.trimPrefix s p = r := by
  unfold dropPre Lib.trimPrefix Lib.hasPrefix
  by_cases h : p.isPrefixOf s = true
  · exact .inr ⟨_, by rw [if_pos h], h, by rw [if_pos h]⟩
  · exact .inl ⟨by rw [if_neg h], Bool.eq_false_iff.2 h, by rw [if_neg h]⟩
theorem lib_suf (s p : List UInt8) : (dropSuf p s = none ∧ Lib.hasSuffix s p = false ∧ Lib.trimSuffix s p = s) ∨ ∃ r, dropSuf p s = some r ∧ Lib.hasSuffix s p = true ∧ Lib.trimSuffix s p = r := by
  unfold dropSuf Lib.trimSuffix Lib.hasSuffix
  by_cases h : p.isSuffixOf s = true
  · exact .inr ⟨_, by rw [if_pos h], h, by rw [if_pos h]⟩
  · exact .inl ⟨by rw [if_neg h], Bool.eq_false_iff.2 h, by rw [if_neg h]⟩
/-- a head, as the program reads it: five tests -/
theorem head_tests (s : List UInt8) : ∃ (p1 p2 p3 : Bool) (s1 s2 ca cb : List UInt8), Lib.hasPrefix s atAt = p1 ∧ Lib.trimPrefix s atAt = s1 ∧ Lib.hasSuffix s1 endAt = p2 ∧ Lib.trimSuffix s1 endAt = s2 ∧ Lib.cut s2 [32, 43] = (ca, cb, p3) ∧
    s1.length ≤ s.length ∧ s2.length ≤ s.length ∧ ca.length ≤ s.length ∧ cb.length ≤ s.length ∧
    headOf s = if p1 = true ∧ p2 = true ∧ p3 = true then (match spanOf ca with
          | none => none
          | some (a, x) => match spanOf cb with
            | none => none
            | some (b, y) => some (a, x, b, y)) else none := by
  have hc := lib_cut (t := [32, 43]) (s := Lib.trimSuffix (Lib.trimPrefix s atAt) endAt) (by simp)
  have l1 : (Lib.trimPrefix s atAt).length ≤ s.length := by
    unfold Lib.trimPrefix; split
    · rw [List.length_drop]; omega
    · exact Nat.le_refl _
  have l2 : (Lib.trimSuffix (Lib.trimPrefix s atAt) endAt).length ≤ s.length := by
    unfold Lib.trimSuffix; split
    · rw [List.length_take]; omega
    · exact l1
  have l3 := cutA_len [32, 43] (Lib.trimSuffix (Lib.trimPrefix s atAt) endAt)
  have l4 := cutB_len [32, 43] (Lib.trimSuffix (Lib.trimPrefix s atAt) endAt)
  refine ⟨_, _, _, _, _, _, _, rfl, rfl, rfl, rfl, hc, l1, l2, by omega, by omega, ?_⟩
  unfold headOf
  rcases lib_pre s atAt with ⟨h1, h2, h3⟩ | ⟨r, h1, h2, h3⟩
  · rw [h1, h2, if_neg (by simp)]
  · rw [h1, h2, h3]
    simp only
    rcases lib_suf r endAt with ⟨g1, g2, g3⟩ | ⟨q, g1, g2, g3⟩
    · rw [g1, g2, if_neg (by simp)]
    · rw [g1, g2, g3]
      simp only
      unfold cutA cutB
      cases hcu : cutSub [32, 43] q with
      | none => rw [if_neg (by simp)]
      | some p =>
        simp
        rfl
theorem rl_head {hs : List Hunk} {o n : Nat} (h : ¬ (0 < o ∨ 0 < n)) (s : List UInt8) : readLine hs o n s = match headOf s with
    | none => none
    | some (a, x, b, y) => some (hs ++ [⟨a, b, []⟩], x, y) := by unfold readLine; rw [if_neg h]; rfl

set_option maxHeartbeats 2000000 in
set_option maxRecDepth 100000 in
theorem reader_line (W0 B : Nat) (v : Value) (hs : List Hunk) (o n : Nat) (s : ByteArray) (w : World) (h : RdrAt w W0 B v hs o n) (hk : RdOk hs o n) (hs1 : s.size ≤ 1000000000) (hon : o ≤ 1000000 ∧ n ≤ 1000000)
    (hb : hs.length ≤ 1000000) (hml : ∀ h ∈ hs, h.marks.length ≤ 1000000) (m : Int) (hg : Globs w m) :
    Calls Tryz.prog 32 #[.pointer (some ⟨B, 0, none⟩), .string s] w (LinePost W0 B hs o n s.data.toList w) := by
  by_cases hop : 0 < o ∨ 0 < n
  · have HO := Lib.hid (opn_true hop)
    have HC := Lib.hid (reader_mark W0 B v hs o n s w h hop (hk hop) hs1 hon hb hml)
    have hbox := h.box
    clear hml hk hop
    go_enter Tryz.func32, Tryz.ntmps32
    go_wp2_with fail
    refine (rd_open B v o n _ hbox).mono ?_
    rintro e w1 ⟨rfl, rfl⟩
    rw [HO.out]
    go_wp2_with fail
    refine HC.out.mono ?_
    rintro e w2 ⟨hc, hp⟩
    cases hr : readLine hs o n s.data.toList with
    | none =>
      rw [hr] at hp
      subst hp
      have HR := Lib.hid hr
      clear hr HC
      go_wp2_with fail
      go_ret
      exact linePost_no HR.out rfl hc
    | some p =>
      obtain ⟨hs', o', n'⟩ := p
      rw [hr] at hp
      obtain ⟨rfl, hp⟩ := hp
      have HR := Lib.hid hr
      have HP := Lib.hid hp
      clear hr hp HC
      go_wp2_with fail
      go_ret
      exact linePost_yes HR.out rfl hc HP.out
  · have HO := Lib.hid (opn_false hop)
    have HR := Lib.hid (rl_head (hs := hs) hop s.data.toList)
    have hbox := h.box
    have hbase := h.base
    have hown := h.own
    obtain ⟨p1, p2, p3, s1, s2, ca, cb, e1, e2, e3, e4, e5, l1, l2, l3, l4, hh⟩ := head_tests s.data.toList
    have HH := Lib.hid hh
    have E1 := Lib.hid e1
    have E2 := Lib.hid e2
    have E3 := Lib.hid e3
    have E4 := Lib.hid e4
    have E5 := Lib.hid e5
    rw [← Lib.size_eq] at l1 l2 l3 l4
    clear e1 e2 e3 e4 e5 hh hml hk hop h
    go_enter Tryz.func32, Tryz.ntmps32
    go_wp2_with fail
    refine (rd_open B v o n _ hbox).mono ?_
    rintro e w1 ⟨rfl, rfl⟩
    rename World => w
    rw [HO.out]
    go_wp2_with fail
    refine (Tryz.strings_CutPrefix s (toB atAt) _).mono ?_
    rintro e w1 ⟨rfl, rfl⟩
    rename World => w
    rw [toB_data, E1.out, E2.out]
    rw [show (⟨s1.toArray⟩ : ByteArray) = toB s1 from rfl]
    go_wp2_with fail
    refine (Tryz.strings_CutSuffix (toB s1) (toB endAt) _ (by rw [toB_size']; omega)).mono ?_
    rintro e w1 ⟨rfl, rfl⟩
    rename World => w
    rw [toB_data, toB_data, E3.out, E4.out]
    rw [show (⟨s2.toArray⟩ : ByteArray) = toB s2 from rfl]
    go_wp2_with fail
    refine (Tryz.strings_Cut (toB s2) (toB [32, 43]) m _ (by rw [toB_size']; omega) hg.ml).mono ?_
    rintro e w2 ⟨rfl, nd, rfl⟩
    have hc : Chg Never w (w.drewN nd) := (Chg.refl Never w).drewN nd
    rw [toB_data, toB_data, E5.out]
    rw [show (⟨ca.toArray⟩ : ByteArray) = toB ca from rfl, show (⟨cb.toArray⟩ : ByteArray) = toB cb from rfl]
    generalize w.drewN nd = w2 at hc ⊢
    go_wp2_with fail
    refine (read_any (toB ca) (by rw [toB_size']; omega) _ m (hg.never hc)).mono ?_
    rintro e w3 ⟨x, y, rfl, hxy, hc3⟩
    have hc := hc.trans hc3
    rw [toB_data] at hxy ⊢
    go_wp2_with fail
    refine (read_any (toB cb) (by rw [toB_size']; omega) _ m (hg.never hc)).mono ?_
    rintro e w4 ⟨x', y', rfl, hxy', hc4⟩
    have hc := hc.trans hc4
    rw [toB_data] at hxy' ⊢
    clear hc3 hc4 E1 E2 E3 E4 E5
    cases p1 with
    | false =>
      have hr : Hid (readLine hs o n s.data.toList = none) := by
        rw [Hid, HR.out, HH.out]
        simp
      have hcN : Chg (RdC W0 B) w _ := hc.mono (O' := RdC W0 B) (fun _ _ h => h.elim)
      clear HR HH
      go_wp2_with fail
      go_ret
      exact linePost_no hr.out rfl hcN
    | true =>
      cases p2 with
      | false =>
        have hr : Hid (readLine hs o n s.data.toList = none) := by
          rw [Hid, HR.out, HH.out]
          simp
        have hcN : Chg (RdC W0 B) w _ := hc.mono (O' := RdC W0 B) (fun _ _ h => h.elim)
        clear HR HH
        go_wp2_with fail
        go_ret
        exact linePost_no hr.out rfl hcN
      | true =>
        cases p3 with
        | false =>
          have hr : Hid (readLine hs o n s.data.toList = none) := by
            rw [Hid, HR.out, HH.out]
            simp
          have hcN : Chg (RdC W0 B) w _ := hc.mono (O' := RdC W0 B) (fun _ _ h => h.elim)
          clear HR HH
          go_wp2_with fail
          go_ret
          exact linePost_no hr.out rfl hcN
        | true =>
          cases ha : spanOf ca with
          | none =>
            rw [ha] at HH
            rw [Option.isSome_none]
            clear ha hxy hxy'
            generalize (spanOf cb).isSome = f5
            have hr : Hid (readLine hs o n s.data.toList = none) := by
              rw [Hid, HR.out, HH.out]
              simp
            have hcN : Chg (RdC W0 B) w _ := hc.mono (O' := RdC W0 B) (fun _ _ h => h.elim)
            clear HR HH
            go_wp2_with fail
            go_ret
            exact linePost_no hr.out rfl hcN
          | some p =>
            obtain ⟨a, xa⟩ := p
            obtain ⟨rfl, rfl⟩ := hxy a xa ha
            rw [ha] at HH
            rw [Option.isSome_some]
            cases hb2 : spanOf cb with
            | none =>
              rw [hb2] at HH
              rw [Option.isSome_none]
              clear ha hxy hxy' hb2
              have hr : Hid (readLine hs o n s.data.toList = none) := by
                rw [Hid, HR.out, HH.out]
                simp
              have hcN : Chg (RdC W0 B) w _ := hc.mono (O' := RdC W0 B) (fun _ _ h => h.elim)
              clear HR HH
              go_wp2_with fail
              go_ret
              exact linePost_no hr.out rfl hcN
            | some p =>
              obtain ⟨b, xb⟩ := p
              obtain ⟨rfl, rfl⟩ := hxy' b xb hb2
              rw [hb2] at HH
              rw [Option.isSome_some]
              have hr : Hid (readLine hs o n s.data.toList = some (hs ++ [⟨x, x', []⟩], xa, xb)) := by
                rw [Hid, HR.out, HH.out]
                simp
              have hbox4 := hbox.keep hc (fun h => h)
              have hown4 := hown.never hc
              have hBl := hbox4.lt
              obtain ⟨c0, c1, c2⟩ := hbox4.cell
              have hfr := hbox4.free
              have hO : ∀ k, RdO W0 B k → k < w4.heap.size := by
                rintro k (hk | rfl)
                · have := hc.size; omega
                · exact hBl
              obtain ⟨va, vn, vc, rfl⟩ := own_isSlice hown4
              have hBv : ¬ OwnB (.slice va vn vc) B := by
                obtain ⟨_, _, qq, _⟩ := hown4
                exact fun hh => qq B hh (.inr rfl)
              have hvW : ∀ k, OwnB (.slice va vn vc) k → W0 ≤ k := fun k hk => by
                obtain ⟨_, _, qq, _⟩ := hown4
                rcases Nat.lt_or_ge k W0 with h | h
                · exact absurd (.inl h) (qq k hk)
                · exact h
              have hlen : hs.length ≤ 1000000000 := by omega
              clear HR HH ha hb2 hxy hxy' hbox hown
              go_wp2_with (at_builtin; refine wpList_push_last (by rfl) _ _ 22 (by rfl) 39 elemOk_hunk (O := RdO W0 B) (by rfl) (by rfl) (by simp) hown4 hO hlen ?_; intro v' w5 xs hlast hc5; obtain ⟨g', gc', rfl, -, -, -, -, -, -, -, -⟩ := hlast.shape; have hbox5 := hbox4.keep hc5 hBv; have hfr5 := hbox5.free 0; have hfr51 := hbox5.free 1; have hfr52 := hbox5.free 2; obtain ⟨d0, d1, d2⟩ := hbox5.cell)
              have hcF : Chg (RdC W0 B) w ((((w5.setCell ⟨B, 0, none⟩ (.slice (some ⟨g', 0, none⟩) (hs.length + 1) gc')).setCell ⟨B, 1, none⟩ (.int .i64 (xa : Nat))).setCell ⟨B, 2, none⟩ (.int .i64 (xb : Nat)))) :=
                ((((hc.mono (O' := RdC W0 B) (fun _ _ h => h.elim)).trans (hc5.mono (O' := RdC W0 B) (fun k _ hk => .inr (hvW k hk)))).setCell (.inr (show RdC W0 B B from .inl rfl)) _).setCell (.inr (show RdC W0 B B from .inl rfl)) _).setCell (.inr (show RdC W0 B B from .inl rfl)) _
              have hSB : Chg (fun k => k = B) w5 ((((w5.setCell ⟨B, 0, none⟩ (.slice (some ⟨g', 0, none⟩) (hs.length + 1) gc')).setCell ⟨B, 1, none⟩ (.int .i64 (xa : Nat))).setCell ⟨B, 2, none⟩ (.int .i64 (xb : Nat)))) :=
                (((Chg.refl (fun k => k = B) w5).setCell (p := ⟨B, 0, none⟩) (.inr rfl) _).setCell (p := ⟨B, 1, none⟩) (.inr rfl) _).setCell (p := ⟨B, 2, none⟩) (.inr rfl) _
              have hRF : ∃ v', RdrAt ((((w5.setCell ⟨B, 0, none⟩ (.slice (some ⟨g', 0, none⟩) (hs.length + 1) gc')).setCell ⟨B, 1, none⟩ (.int .i64 (xa : Nat))).setCell ⟨B, 2, none⟩ (.int .i64 (xb : Nat)))) W0 B v' (hs ++ [⟨x, x', []⟩]) xa xb :=
                ⟨_, Nat.le_trans hbase hcF.size, ((hbox5.set0 _).set1 _).set2 _, .inr ⟨hs, _, _, _, rfl, hlast.keepO hSB (fun _ _ hk => .inr hk) (fun _ _ hk => hk)⟩⟩
              have HRF := Lib.hid hRF
              have HCF := Lib.hid hcF
              clear hRF hcF hSB hlast hc5 hbox4 hbox5 hown4 c0 c1 c2 hfr hc
              go_wp2_with fail
              go_ret
              exact linePost_yes hr.out rfl HCF.out HRF.out
end Go.Proofs.YtmojaahkcpgfkaaGreatDoor
namespace Go.Proofs.YtmojaahkcpgfkaaGreatDoor
open Go.RowKit

theorem byte_at {s : ByteArray} {k : Nat} (h : k < s.size) : s.data.toList[k]? = some (s[k]'h) := by
  rw [Array.getElem?_toList, Array.getElem?_eq_getElem h]; rfl
theorem byte_eq {c d : UInt8} {n : Int} (h : ((c.toNat : Int) == n) = true) (hd : (d.toNat : Int) = n) : c = d := by
  have := eq_of_beq h
  exact UInt8.toNat_inj.1 (by omega)
theorem byte_ne {c d : UInt8} {n : Int} (h : ((c.toNat : Int) == n) = false) (hd : (d.toNat : Int) = n) : c ≠ d := by
  rintro rfl
  rw [hd] at h
  simp at h
/-- how far a text has been parted -/
def PartsInv (d : UInt8) (s : ByteArray) (q k : Nat) (L : List ByteArray) : Prop :=
  parts d s.data.toList = L.map (·.data.toList) ++ parts d (s.data.toList.drop q) ∧ ∀ j, q ≤ j → j < k → s.data.toList[j]? ≠ some d
theorem pinv_start (d : UInt8) (s : ByteArray) : PartsInv d s 0 0 [] := ⟨by simp, fun j _ h => absurd h (Nat.not_lt_zero j)⟩
theorem PartsInv.step {d : UInt8} {s : ByteArray} {q k : Nat} {L : List ByteArray} {c : UInt8} (h : PartsInv d s q k L) (hk : s.data.toList[k]? = some c) (hc : c ≠ d) : PartsInv d s q (k + 1) L :=
  ⟨h.1, fun j h1 h2 e => by
    by_cases hj : j = k
    · subst hj; rw [hk] at e; injection e with e; exact hc e
    · exact h.2 j h1 (by omega) e⟩
theorem no_sep {d : UInt8} {s : List UInt8} {q k : Nat} (h : ∀ j, q ≤ j → j < k → s[j]? ≠ some d) : ∀ x ∈ (s.drop q).take (k - q), x ≠ d := by
  rintro x hx rfl
  obtain ⟨i, hi⟩ := List.getElem?_of_mem hx
  rw [List.getElem?_take] at hi
  split at hi
  · rw [List.getElem?_drop] at hi
    exact h (q + i) (by omega) (by omega) hi
  · cases hi
theorem PartsInv.cut {d : UInt8} {s : ByteArray} {q k : Nat} {L : List ByteArray} (h : PartsInv d s q k L) (hq : q ≤ k) (hk : s.data.toList[k]? = some d) : PartsInv d s (k + 1) (k + 1) (L ++ [s.extract q k]) := by
  refine ⟨?_, fun j h1 h2 => by omega⟩
  have e : s.data.toList.drop q = (s.data.toList.drop q).take (k - q) ++ d :: s.data.toList.drop (k + 1) := by
    conv => lhs; rw [← List.take_append_drop (k - q) (s.data.toList.drop q), List.drop_drop, show q + (k - q) = k by omega, drop_eq hk]
  rw [h.1, e, parts_cut _ (no_sep h.2), List.map_append, List.append_assoc]
  simp only [List.map_cons, List.map_nil, List.singleton_append]
  rw [Lib.extract_data]
theorem PartsInv.fin {d : UInt8} {s : ByteArray} {q : Nat} {L : List ByteArray} (h : PartsInv d s q s.size L) : (parts d s.data.toList).map toB = L ++ [s.extract q s.size] := by
  have hl : s.data.toList.length = s.size := (Lib.size_eq s).symm
  have e : (s.data.toList.drop q).take (s.size - q) = s.data.toList.drop q := List.take_of_length_le (by rw [List.length_drop, hl]; exact Nat.le_refl _)
  have hn := no_sep h.2
  rw [e] at hn
  have e2 : toB (s.data.toList.drop q) = s.extract q s.size := by rw [← e, ← Lib.extract_data, toB_of]
  rw [h.1, parts_none hn, List.map_append, List.map_map, map_toB, List.map_cons, List.map_nil, e2]

theorem elemOk_parts : ElemOk Tryz.prog 56 9 1 := elemOk_of Tryz.underlying56 (z := .string ⟨#[]⟩) (b := 16) (by kernel_rfl) rfl (by decide)
set_option maxHeartbeats 1000000 in
set_option maxRecDepth 100000 in
theorem refParts_any (s : ByteArray) (w : World) (hs : s.size ≤ 100000000) :
    Calls Tryz.prog 29 #[.string s] w fun e w' => ∃ r, e = .returned r ∧ Chg Never w w' ∧ Rdv w' (Old w.heap.size) r ((parts 10 s.data.toList).map toB) := by
  go_enter Tryz.func29, Tryz.ntmps29
  go_wp2_with fail
  go_loopw [3, 4, 5] (fun o fr i wr => ∃ (q k : Nat) (L : List ByteArray), fr = .int .i64 q ∧ i = .int .i64 k ∧ q ≤ k ∧ k ≤ s.size ∧ Chg Never w wr ∧ Own 9 wr (Old w.heap.size) o L ∧ L.length ≤ k ∧ Hid (PartsInv 10 s q k L)) (fun _ _ i _ => s.size - (intOf i).toNat)
  case atStart => exact ⟨0, 0, [], rfl, rfl, Nat.le_refl _, Nat.zero_le _, Chg.refl _ _, own_nil _ _ _, Nat.le_refl _, pinv_start _ _⟩
  case round =>
    obtain ⟨q, k, L, rfl, rfl, hqk, hk, hc, hown, hL, hP⟩ := hrel
    by_cases hlt : k < s.size
    · have HB := Lib.hid (byte_at hlt)
      cases hq : (((s[k]'hlt).toNat : Int) == 10) with
      | true =>
        have HC : Hid (PartsInv 10 s (k + 1) (k + 1) (L ++ [s.extract q k])) := hP.out.cut hqk (by rw [HB.out, byte_eq (d := 10) hq rfl])
        have hes : (s.extract q k).size ≤ maxLen := by rw [ByteArray.size_extract]; unfold maxLen; omega
        go_wp2_with (at_builtin; refine wpList_push (by rfl) _ _ 56 (by rfl) elemOk_parts (O := Old w.heap.size) (l := L) (y := s.extract q k) (by rfl) (by rfl) (by simp) hown ⟨rfl, hes⟩ (old_lt hc) (by omega) ?_; intro v' w2 hown2 hc2 _)
        have hc3 := own_step hc hown hc2
        clear hc2 hown hc
        go_wp2_with fail
        go_roundw
        case rel => exact ⟨k + 1, k + 1, _, by go_num, by go_num, Nat.le_refl _, by omega, hc3, hown2, by simp; omega, HC⟩
        case measure => simp [intOf] <;> omega
      | false =>
        have HC : Hid (PartsInv 10 s q (k + 1) L) := hP.out.step HB.out (byte_ne hq rfl)
        go_wp2_with fail
        go_roundw
        case rel => exact ⟨q, k + 1, L, rfl, by go_num, by omega, by omega, hc, hown, by omega, HC⟩
        case measure => simp [intOf] <;> omega
    · obtain rfl : k = s.size := by omega
      have HC := Lib.hid hP.out.fin
      have hes : (s.extract q s.size).size ≤ maxLen := by rw [ByteArray.size_extract]; unfold maxLen; omega
      go_wp2_with (at_builtin; refine wpList_push (by rfl) _ _ 56 (by rfl) elemOk_parts (O := Old w.heap.size) (l := L) (y := s.extract q s.size) (by rfl) (by rfl) (by simp) hown ⟨rfl, hes⟩ (old_lt hc) (by omega) ?_; intro v' w2 hown2 hc2 _)
      have hc3 := own_step hc hown hc2
      clear hc2 hown hc
      go_wp2_with fail
      go_ret
      exact ⟨_, rfl, hc3, by rw [HC.out]; exact hown2.rdv⟩

end Go.Proofs.YtmojaahkcpgfkaaGreatDoor
namespace Go.Proofs.YtmojaahkcpgfkaaGreatDoor
open Go.RowKit

theorem nl_mem {s : ByteArray} {k : Nat} (hlt : k < s.size) (h : (((s[k]'hlt).toNat : Int) == 10) = true) : hasNl s = true := by
  unfold hasNl
  have h1 : (s[k]'hlt).toNat = 10 := by have := eq_of_beq h; omega
  have h2 : s[k]'hlt = (10 : UInt8) := UInt8.toNat_inj.1 h1
  have h3 : s.data[k]'hlt = (10 : UInt8) := h2
  rw [List.contains_iff_mem, Array.mem_toList_iff]
  rw [← h3]
  exact Array.getElem_mem _
theorem nl_none {s : ByteArray} (h : ∀ (j : Nat) (hj : j < s.size), (((s[j]'hj).toNat : Int) == 10) = false) : hasNl s = false := by
  unfold hasNl
  rw [Bool.eq_false_iff]
  intro e
  rw [List.contains_iff_mem, Array.mem_toList_iff] at e
  obtain ⟨j, hj, e⟩ := Array.mem_iff_getElem.1 e
  have := h j hj
  have h2 : s[j]'hj = (10 : UInt8) := e
  rw [h2] at this
  exact absurd this (by decide)

set_option maxHeartbeats 1000000 in
set_option maxRecDepth 100000 in
theorem refLine_any (s : ByteArray) (w : World) (hs : s.size ≤ maxLen) :
    Calls Tryz.prog 40 #[.string s] w fun e w' => e = .returned (.int .i64 (lineFault s)) ∧ Chg Never w w' := by
  unfold maxLen at hs
  go_enter Tryz.func40, Tryz.ntmps40
  go_wp2_with fail
  go_loopw [3] (fun i wr => ∃ k : Nat, k ≤ s.size ∧ i = .int .i64 k ∧ Chg Never w wr ∧ Hid (∀ (j : Nat), j < k → ∀ (hj : j < s.size), (((s[j]'hj).toNat : Int) == 10) = false)) (fun i _ => s.size - (intOf i).toNat)
  case atStart => exact ⟨0, Nat.zero_le _, rfl, Chg.refl _ _, fun j h => absurd h (Nat.not_lt_zero j)⟩
  case round =>
    obtain ⟨k, hk, rfl, hc, hf⟩ := hrel
    by_cases hlt : k < s.size
    · cases hq : (((s[k]'hlt).toNat : Int) == 10) with
      | true =>
        have HN := Lib.hid (nl_mem hlt hq)
        go_wp2_with fail
        go_ret
        exact ⟨by rw [lineFault, if_pos HN.out]; rfl, hc⟩
      | false =>
        have HQ : Hid ((((s[k]'hlt).toNat : Int) == 10) = false) := hq
        go_wp2_with fail
        go_roundw
        case rel => exact ⟨k + 1, by omega, by go_num, hc, fun j hj hj' => by
          by_cases e : j = k
          · subst e; exact HQ.out
          · exact hf.out j (by omega) hj'⟩
        case measure => simp [intOf] <;> omega
    · have HN := Lib.hid (nl_none (fun j hj => hf.out j (by omega) hj))
      clear hf
      by_cases h80 : 80 < s.size
      · go_wp2_with fail
        go_ret
        exact ⟨by rw [lineFault, if_neg (by rw [HN.out]; decide), if_pos h80]; rfl, hc⟩
      · go_wp2_with fail
        go_ret
        exact ⟨by rw [lineFault, if_neg (by rw [HN.out]; decide), if_neg h80]; rfl, hc⟩

theorem firstOf_bad {α : Type} (f : α → Int) : ∀ (l : List α) (k : Nat) (x : α), (∀ y ∈ l.take k, f y = 0) → l[k]? = some x → f x ≠ 0 → firstOf f l = f x
  | [], _, _, _, h, _ => by simp at h
  | y :: r, 0, x, _, h, hx => by
    simp only [List.getElem?_cons_zero, Option.some.injEq] at h
    subst h
    rw [firstOf, if_neg hx]
  | y :: r, k + 1, x, ha, h, hx => by
    rw [firstOf, if_pos (ha y (by simp))]
    exact firstOf_bad f r k x (fun z hz => ha z (by simp [hz])) (by simpa using h) hx
theorem take_all_succ {α : Type} {p : α → Prop} {l : List α} {k : Nat} {x : α} (h : ∀ y ∈ l.take k, p y) (hx : l[k]? = some x) (hp : p x) : ∀ y ∈ l.take (k + 1), p y := by
  intro y hy
  rw [List.take_add_one, hx] at hy
  rcases List.mem_append.1 hy with h' | h'
  · exact h y h'
  · simp at h'; rw [h']; exact hp

theorem markFault_line' {sg : Int} (h : sg = 32 ∨ sg = 45 ∨ sg = 43) (tx : ByteArray) : markFault ⟨sg, tx⟩ = lineFault tx := by
  unfold markFault
  rw [if_neg (by simp only []; omega)]
set_option maxHeartbeats 2000000 in
set_option maxRecDepth 100000 in
theorem refScript_any (l : List Mark) (v : Value) (w : World) (h : Rdv w Never v l) :
    Calls Tryz.prog 20 #[v] w fun e w' => e = .returned (.int .i64 (scriptFault l)) ∧ Chg Never w w' := by
  obtain ⟨a, cap, rfl, h1, h2, h3⟩ := rdv_slice h
  unfold maxLen at h2
  by_cases h60 : 120 < l.length
  · have HF : Hid (scriptFault l = 3) := if_pos h60
    go_enter Tryz.func20, Tryz.ntmps20
    go_wp2_with fail
    go_ret
    exact ⟨by rw [HF.out]; rfl, Chg.refl _ _⟩
  · have HF : Hid (scriptFault l = firstOf markFault l) := if_neg h60
    go_enter Tryz.func20, Tryz.ntmps20
    go_wp2_with fail
    go_loopw [3] (fun i wr => ∃ k : Nat, k ≤ l.length ∧ i = .int .i64 k ∧ Chg Never w wr ∧ Hid (∀ y ∈ l.take k, markFault y = 0)) (fun i _ => l.length - (intOf i).toNat)
    case atStart => exact ⟨0, Nat.zero_le _, rfl, Chg.refl _ _, fun y hy => by simp at hy⟩
    case round =>
      obtain ⟨k, hk, rfl, hc, hf⟩ := hrel
      by_cases hlt : k < l.length
      · obtain ⟨x, hx⟩ : ∃ x, l[k]? = some x := ⟨l[k], by simp [hlt]⟩
        obtain ⟨b, off, rfl, _, _, c0, c1, s0, s1, hxs⟩ := elems_mark h3 hx
        have c0 := hc.cellNever c0
        have c1 := hc.cellNever c1
        obtain ⟨sg, tx⟩ := x
        simp only at c0 c1 s0 s1 hxs
        have HX := Lib.hid hx
        clear hx h3 h
        by_cases hs : sg = 32 ∨ sg = 45 ∨ sg = 43
        · have HM := Lib.hid (markFault_line' hs tx)
          by_cases hz : lineFault tx = 0
          · have HZ : Hid (markFault ⟨sg, tx⟩ = 0) := by rw [Hid, HM.out, hz]
            have HL := Lib.hid hz
            clear hz
            rcases hs with rfl | rfl | rfl
            all_goals
              go_wp2_with fail
              refine (refLine_any tx _ hxs).mono ?_
              rintro e w2 ⟨rfl, hc2⟩
              rw [HL.out]
              have hc := hc.trans hc2
              go_wp2_with fail
              go_roundw
              case rel => exact ⟨k + 1, by omega, by go_num, hc, take_all_succ hf.out HX.out HZ.out⟩
              case measure => simp [intOf] <;> omega
          · have HB := Lib.hid (firstOf_bad markFault l k _ hf.out HX.out (by rw [HM.out]; exact hz))
            have t1 : (lineFault tx == 0) = false := by simp [hz]
            have t2 : (lineFault tx != 0) = true := by simp [hz]
            clear hz
            rcases hs with rfl | rfl | rfl
            all_goals
              go_wp2_with fail
              refine (refLine_any tx _ hxs).mono ?_
              rintro e w2 ⟨rfl, hc2⟩
              have hc := hc.trans hc2
              go_wp2_with fail
              go_ret
              exact ⟨by rw [HF.out, HB.out, HM.out]; rfl, hc⟩
        · have HZ : Hid (markFault ⟨sg, tx⟩ = 1) := by unfold Hid markFault; rw [if_pos (by simp only []; omega)]
          have HB := Lib.hid (firstOf_bad markFault l k _ hf.out HX.out (by rw [HZ.out]; decide))
          have t1 : (sg != 32) = true := by simp; omega
          have t2 : (sg != 45) = true := by simp; omega
          have t3 : (sg != 43) = true := by simp; omega
          clear hs
          go_wp2_with fail
          go_ret
          exact ⟨by rw [HF.out, HB.out, HZ.out]; rfl, hc⟩
      · have HZ := Lib.hid ((firstOf_zero markFault l).2 (fun y hy => hf.out y (by rw [List.take_of_length_le (by omega)]; exact hy)))
        go_wp2_with fail
        go_ret
        exact ⟨by rw [HF.out, HZ.out]; rfl, hc⟩
end Go.Proofs.YtmojaahkcpgfkaaGreatDoor
namespace Go.Proofs.YtmojaahkcpgfkaaGreatDoor
open Go.RowKit

theorem size_mark (w : World) : (sizeOf (Tryz.prog.elem 40)).run Tryz.prog w = .ok 2 w := by kernel_rfl
/-- 's[i:j]' as a run, at whatever element type -/
theorem slice_gen {P : Program} {t : TypeId} (ht : P.underlying t = some (.slice (P.elem t))) {α : Type} [Dat α] (hsz : ∀ w, (sizeOf (P.elem t)).run P w = .ok (Dat.n α) w) {w0 : World} {O : Nat → Prop} {a : Option Addr} {cap : Nat} {l : List α} (h : Rdv w0 O (.slice a l.length cap) l) (i j : Nat) (hij : i ≤ j) (hj : j ≤ l.length) :
    ∃ b, (∀ (x y : Int) (w : World), x = i → y = j → (Instr.slice t (.slice a l.length cap) (some (.int .i64 x)) (some (.int .i64 y)) none).run P w = .ok (.slice b (j - i) (cap - i)) w) ∧
      (∀ (x : Int) (w : World), x = i → j = l.length → (Instr.slice t (.slice a l.length cap) (some (.int .i64 x)) none none).run P w = .ok (.slice b (j - i) (cap - i)) w) ∧
      (∀ (y : Int) (w : World), i = 0 → y = j → (Instr.slice t (.slice a l.length cap) none (some (.int .i64 y)) none).run P w = .ok (.slice b (j - i) (cap - i)) w) ∧
      Rdv w0 O (.slice b (j - i) (cap - i)) ((l.drop i).take (j - i)) := by
  have hr := rdv_sliced h i j hij hj
  obtain ⟨b, hb⟩ := sliced_isSlice a i j cap (Dat.n α)
  obtain ⟨a', cap', e, h1, h2, h3⟩ := rdv_slice h
  simp only [Value.slice.injEq, true_and] at e
  obtain ⟨rfl, rfl⟩ := e
  refine ⟨b, ?_, ?_, ?_, hb ▸ hr⟩
  · rintro x y w rfl rfl
    rw [run_slice_lh w t a l.length cap ht .i64 .i64 _ _ (by omega) (by omega) (by omega), hsz]
    simp only [Result.andThen_ok, Int.toNat_natCast]
    rw [hb]
  · rintro x w rfl rfl
    rw [run_slice_l w t a l.length cap ht .i64 _ (by omega) (by omega), hsz]
    simp only [Result.andThen_ok, Int.toNat_natCast]
    rw [hb]
  · rintro y w rfl rfl
    rw [run_slice_h w t a l.length cap ht .i64 _ (by omega) (by omega), hsz]
    simp only [Result.andThen_ok, Int.toNat_natCast]
    rw [hb]
end Go.Proofs.YtmojaahkcpgfkaaGreatDoor
namespace Go.Proofs.YtmojaahkcpgfkaaGreatDoor
open Go.RowKit
theorem last_of {l : List (List UInt8)} (h : l ≠ []) : ∃ i z, l = i ++ [z] := ⟨l.dropLast, l.getLast h, (List.dropLast_concat_getLast h).symm⟩
theorem rdv_strs {w : World} {O : Nat → Prop} {g : Nat} {e : TypeId} {l : List ByteArray} {n : Nat} (h : w.heap[g]? = some (.cells (l.map Value.string).toArray e (0, 0))) (hO : ¬ O g) (hn : n = l.length) (hl : l.length ≤ maxLen) (hs : ∀ x ∈ l, x.size ≤ maxLen) : Rdv w O (.slice (some ⟨g, 0, none⟩) n n) l := by
  subst hn
  refine ⟨some ⟨g, 0, none⟩, l.length, rfl, Nat.le_refl _, hl, ?_⟩
  intro i x hx
  refine ⟨g, 0, [.string x], rfl, hO, ?_, rfl, hs x (List.mem_of_getElem? hx)⟩
  intro j u hj
  match j, hj with
  | 0, hj =>
    simp only [List.getElem?_cons_zero, Option.some.injEq] at hj
    subst hj
    simp only [World.cell?, h]
    simp [Dat.n, hx]
theorem suffix_snoc (b : List UInt8) : Lib.hasSuffix (b ++ [10]) [10] = true ∧ Lib.trimSuffix (b ++ [10]) [10] = b := by
  have e : Lib.hasSuffix (b ++ [10]) [10] = true := by
    unfold Lib.hasSuffix
    rw [List.isSuffixOf_iff_suffix]
    exact List.suffix_append b [10]
  refine ⟨e, ?_⟩
  unfold Lib.trimSuffix
  rw [if_pos e]
  simp
theorem suffix_not {b : List UInt8} {c : UInt8} (h : c ≠ 10) : Lib.hasSuffix (b ++ [c]) [10] = false := by
  unfold Lib.hasSuffix
  rw [Bool.eq_false_iff]
  intro e
  rw [List.isSuffixOf_iff_suffix] at e
  obtain ⟨t, ht⟩ := e
  have := (List.append_inj' ht rfl).2
  simp at this
  exact h this.symm
theorem str_ne_empty {s : ByteArray} (h : s ≠ ByteArray.empty) : ∃ b c, s.data.toList = b ++ [c] := by
  have hne : s.data.toList ≠ [] := by
    intro e
    apply h
    apply ByteArray.ext
    apply Array.toList_inj.1
    rw [e]; rfl
  exact ⟨s.data.toList.dropLast, s.data.toList.getLast hne, (List.dropLast_concat_getLast hne).symm⟩
end Go.Proofs.YtmojaahkcpgfkaaGreatDoor
namespace Go.Proofs.YtmojaahkcpgfkaaGreatDoor
open Go.RowKit

theorem parts_count (d : UInt8) : ∀ s, (parts d s).length ≤ s.length + 1
  | [] => by simp [parts]
  | c :: r => by
    have := parts_count d r
    by_cases h : c = d
    · subst h; rw [parts_sep]; simp; omega
    · obtain ⟨h', t, e⟩ := List.exists_cons_of_ne_nil (parts_ne d r)
      rw [parts_other h e]
      rw [e] at this
      simp at this ⊢
      omega

theorem joinL_size {l : List ByteArray} (h : ∀ x ∈ l, x.size ≤ 80) : (joinL l).length ≤ 81 * l.length := by
  induction l with
  | nil => simp [joinL]
  | cons x l ih =>
    have h1 := ih (fun y hy => h y (List.mem_cons_of_mem _ hy))
    have h2 := h x (List.mem_cons_self ..)
    rw [Lib.size_eq] at h2
    rw [joinL_cons]
    simp only [List.length_append, List.length_cons]
    omega
theorem linesFault_size {l : List ByteArray} (h : linesFault l = 0) : ∀ x ∈ l, x.size ≤ 80 := by
  unfold linesFault at h
  by_cases e : 60 < l.length
  · rw [if_pos e] at h; cases h
  · rw [if_neg e, firstOf_zero] at h
    intro x hx
    have := h x hx
    unfold lineFault at this
    by_cases e1 : hasNl x = true
    · rw [if_pos e1] at this; cases this
    · rw [if_neg e1] at this
      by_cases e2 : 80 < x.size
      · rw [if_pos e2] at this; cases this
      · omega
theorem joinOf_step {l : List ByteArray} {k : Nat} {x : ByteArray} (hx : l[k]? = some x) : joinOf (l.take k) ++ x ++ ⟨#[10]⟩ = joinOf (l.take (k + 1)) := by
  unfold joinOf
  rw [List.take_add_one, hx, joinL_append]
  apply ByteArray.ext
  apply Array.toList_inj.1
  rw [bytes_append, bytes_append, toB_data, toB_data]
  simp [joinL]
theorem joinL_step {l : List ByteArray} {k : Nat} {x : ByteArray} (hx : l[k]? = some x) : Lib.byteCells (joinL (l.take k)) ++ Lib.strCells x ++ [.int .u8 10] = Lib.byteCells (joinL (l.take (k + 1))) := by
  rw [List.take_add_one, hx, joinL_append, Lib.byteCells_append, Lib.strCells_eq, List.append_assoc]
  congr 1
  simp [joinL, Lib.byteCells_append]
  rfl

theorem parts_mem (d : UInt8) : ∀ (s : List UInt8) (x : List UInt8), x ∈ parts d s → x.length ≤ s.length
  | [], x, h => by simp [parts] at h; subst h; simp
  | c :: r, x, h => by
    have ih := parts_mem d r
    by_cases hc : c = d
    · subst hc
      rw [parts_sep] at h
      rcases List.mem_cons.1 h with rfl | h
      · simp
      · have := ih x h; simp; omega
    · obtain ⟨h', t, e⟩ := List.exists_cons_of_ne_nil (parts_ne d r)
      rw [parts_other hc e] at h
      rw [e] at ih
      rcases List.mem_cons.1 h with rfl | h
      · have := ih h' (List.mem_cons_self ..); simp; omega
      · have := ih x (List.mem_cons_of_mem _ h); simp; omega
end Go.Proofs.YtmojaahkcpgfkaaGreatDoor
