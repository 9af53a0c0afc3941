/-
  PARTS: THE WALKS of unified.Reader's Open and mark.; THE WALK of unified.Reader's Line.; PATCHES AS TEXTS, in plain Lean: the document's reading of a change's two lines is the program's; the loop's steps.; THE WALKS of git.headed and Print.; A CHANGE's HUNKS READ LINE BY LINE, in plain Lean: what holds at each line.; A SLICE OF A SLICE, as a run, at whatever element type (light: no function walked).
-/
import Derived.Test.YtjiaidchcldocaaGreatDoorPf5
import Derived.Test.YtjiaidchcldocaaGreatDoorPf7
import Derived.Test.YtjiaidchcldocaaGreatDoorPf3
import Derived.Deep.RegionHeld3
import Derived.Deep.Cut
import Derived.Test.YtjiaidchcldocaaGreatDoorPf6
import Derived.WalkSpells
set_option linter.unusedVariables false
set_option linter.unusedSimpArgs false
namespace Go.Proofs.YtjiaidchcldocaaGreatDoor
open Go.RowKit

def opnB (o n : Nat) : Bool := decide (0 < o) || decide (0 < n)
theorem opn_true {o n : Nat} (h : 0 < o ∨ 0 < n) : opnB o n = true := by unfold opnB; simpa using h
theorem opn_false {o n : Nat} (h : ¬ (0 < o ∨ 0 < n)) : opnB o n = false := by
  unfold opnB
  rw [decide_eq_false (by omega), decide_eq_false (by omega)]; rfl
set_option maxHeartbeats 1000000 in
theorem rd_open (B : Nat) (v : Value) (o n : Nat) (w : World) (h : Blk3 w B 205 v (.int .i64 o) (.int .i64 n)) :
    Calls Tryz.prog 120 #[.pointer (some ⟨B, 0, none⟩)] w fun e w' => e = .returned (.bool (opnB o n)) ∧ w' = w := by
  obtain ⟨c0, c1, c2⟩ := h.cell
  by_cases ho : 0 < o
  · have HB := Lib.hid (opn_true (o := o) (n := n) (.inl ho))
    have t1 : decide ((0 : Int) < (o : Int)) = true := decide_eq_true (by omega)
    have t1n : decide (0 < o) = true := decide_eq_true ho
    go_enter Tryz.func120, Tryz.ntmps120
    go_wp2_with fail
    go_ret
    exact ⟨by rw [HB.out]; rfl, rfl⟩
  · have t1 : decide ((0 : Int) < (o : Int)) = false := decide_eq_false (by omega)
    have t1n : decide (0 < o) = false := decide_eq_false ho
    by_cases hn : 0 < n
    · have HB := Lib.hid (opn_true (o := o) (n := n) (.inr hn))
      have t2 : decide ((0 : Int) < (n : Int)) = true := decide_eq_true (by omega)
      have t2n : decide (0 < n) = true := decide_eq_true hn
      go_enter Tryz.func120, Tryz.ntmps120
      go_wp2_with fail
      go_ret
      exact ⟨by rw [HB.out]; rfl, rfl⟩
    · have HB := Lib.hid (opn_false (o := o) (n := n) (by omega))
      have t2 : decide ((0 : Int) < (n : Int)) = false := decide_eq_false (by omega)
      have t2n : decide (0 < n) = false := decide_eq_false hn
      go_enter Tryz.func120, Tryz.ntmps120
      go_wp2_with fail
      go_ret
      exact ⟨by rw [HB.out]; rfl, rfl⟩
def LinePost (W0 B : Nat) (hs : List Hunk) (o n : Nat) (s : List UInt8) (w : World) (e : Ending) (w' : World) : Prop :=
  Chg (RdC W0 B) w w' ∧ match readLine hs o n s with
  | none => e = .returned (.bool false)
  | some (hs', o', n') => e = .returned (.bool true) ∧ ∃ v', RdrAt w' W0 B v' hs' o' n'
theorem linePost_no {W0 B o n : Nat} {hs : List Hunk} {s : List UInt8} {w w' : World} {e : Ending} (hr : readLine hs o n s = none) (he : e = .returned (.bool false)) (hc : Chg (RdC W0 B) w w') : LinePost W0 B hs o n s w e w' :=
  ⟨hc, by rw [hr]; exact he⟩
theorem linePost_yes {W0 B o n o' n' : Nat} {hs hs' : List Hunk} {s : List UInt8} {w w' : World} {e : Ending} (hr : readLine hs o n s = some (hs', o', n')) (he : e = .returned (.bool true)) (hc : Chg (RdC W0 B) w w') (hR : ∃ v', RdrAt w' W0 B v' hs' o' n') : LinePost W0 B hs o n s w e w' :=
  ⟨hc, by rw [hr]; exact ⟨he, hR⟩⟩
theorem rl_nil {hs : List Hunk} {o n : Nat} (h : 0 < o ∨ 0 < n) : readLine hs o n [] = none := by unfold readLine; rw [if_pos h]
theorem rl_cons {hs : List Hunk} {o n : Nat} (h : 0 < o ∨ 0 < n) (c : UInt8) (r : List UInt8) : readLine hs o n (c :: r) = if c = 32 ∧ 0 < o ∧ 0 < n then some (addMark hs ⟨32, toB r⟩, o - 1, n - 1)
      else if c = 45 ∧ 0 < o then some (addMark hs ⟨45, toB r⟩, o - 1, n)
      else if c = 43 ∧ 0 < n then some (addMark hs ⟨43, toB r⟩, o, n - 1) else none := by unfold readLine; rw [if_pos h]
theorem byte_ne_int {c d : UInt8} {k : Int} (h : c ≠ d) (hd : (d.toNat : Int) = k) : ((c.toNat : Int) == k) = false := by
  simp only [beq_eq_false_iff_ne, ne_eq]
  intro e
  exact h (UInt8.toNat_inj.1 (by omega))

set_option maxHeartbeats 2000000 in
set_option maxRecDepth 100000 in
theorem reader_mark (W0 B : Nat) (v : Value) (hs : List Hunk) (o n : Nat) (s : ByteArray) (w : World) (h : RdrAt w W0 B v hs o n) (hopen : 0 < o ∨ 0 < n) (hne : hs ≠ []) (hs1 : s.size ≤ 1000000000) (hon : o ≤ 1000000 ∧ n ≤ 1000000)
    (hb : hs.length ≤ 1000000) (hml : ∀ h ∈ hs, h.marks.length ≤ 1000000) :
    Calls Tryz.prog 172 #[.pointer (some ⟨B, 0, none⟩), .string s] w (LinePost W0 B hs o n s.data.toList w) := by
  cases hsl : s.data.toList with
  | nil =>
    have HR := Lib.hid (rl_nil (hs := hs) hopen)
    have t1 : (s.toList == []) = true := by rw [Lib.toList_data, hsl]; rfl
    have t2 : s.toList.isEmpty = true := by rw [Lib.toList_data, hsl]; rfl
    have hsz : s.size = 0 := by rw [Lib.size_eq, hsl]; rfl
    clear hsl hopen hne hml
    go_enter Tryz.func172, Tryz.ntmps172
    go_wp2_with fail
    go_ret
    exact linePost_no HR.out rfl (Chg.refl _ _)
  | cons c r =>
    obtain ⟨init, q, mv, xs, rfl, hlast⟩ : ∃ init q mv xs, hs = init ++ [q] ∧ OwnLast 129 126 w (RdO W0 B) v init q mv xs := by
      rcases h.rows with ⟨q, _⟩ | q
      · exact absurd q hne
      · exact q
    have hbox := h.box
    have hbase := h.base
    have hqm := hml q (by simp)
    have hil : init.length ≤ 1000000 := by rw [List.length_append] at hb; omega
    obtain ⟨g, gcap, rfl, hg1, hg2, hg3, hg4, m2, m0, m1, hfr⟩ := hlast.shape
    have HR := Lib.hid (rl_cons (hs := init ++ [q]) hopen c r)
    have t1 : (s.toList == []) = false := by rw [Lib.toList_data, hsl]; rfl
    have t2 : s.toList.isEmpty = false := by rw [Lib.toList_data, hsl]; rfl
    have hpos : 0 < s.size := by rw [Lib.size_eq, hsl]; simp
    have hc0 : s[0]'hpos = c := by
      have : s.data.toList[0]? = some (s[0]'hpos) := by rw [Array.getElem?_toList, Array.getElem?_eq_getElem hpos]; rfl
      rw [hsl] at this
      injection this with this
      exact this.symm
    have hsx : ∀ wx, (Instr.index 9 (.string s) (.int .i64 0)).run Tryz.prog wx = .ok (.int .u8 c.toNat) wx := fun wx => by
      rw [run_index_string _ _ _ _ _ Tryz.underlying9, dif_pos ⟨by omega, by omega⟩]
      simp only [Int.toNat_zero, hc0]
    have htx : (s.extract 1 s.size) = toB r := by
      apply ByteArray.ext
      apply Array.toList_inj.1
      rw [Lib.extract_data, hsl, toB_data, List.take_of_length_le (by rw [List.length_drop, Lib.size_eq, hsl]; simp)]
      rfl
    have h1s : (1 : Int) ≤ (s.size : Int) := by omega
    have htz : (toB r).size ≤ maxLen := by rw [toB_size', ]; have := Lib.size_eq s; rw [hsl] at this; simp at this; unfold maxLen; omega
    obtain ⟨tx, htxe⟩ : ∃ tx, toB r = tx := ⟨_, rfl⟩
    rw [htxe] at htx htz HR
    clear hsl hne hml hb hc0 htxe h
    go_enter Tryz.func172, Tryz.ntmps172
    go_wp2_with fail
    refine wp_region_held_drew (S := fun w' => Chg Never w w') (by kernel_rfl) (Chg.refl Never w).drew (fun hH => ?_)
    refine' tk 0 ?_
    refine' tk 1 ?_
    refine' tk 2 ?_
    refine' tk 3 ?_
    refine' tk 4 ?_
    refine wpAnyH_ready (rs := [5]) (by kernel_rfl) (by simp) ?_
    refine AllReadyH.cons rfl (fun K hK => ?_) AllReadyH.nil
    go_simp
    refine hK.out _ _ ?_ (fun hH => ?_)
    · exact Chg.alloc (by assumption) _
    clear hK K
    try simp only [Act.put, List.setIfInBounds_toArray, List.set_cons_zero, List.set_cons_succ]
    refine wpAnyH_ready (rs := [6]) (by kernel_rfl) (by simp) ?_
    refine AllReadyH.cons rfl (fun K hK => ?_) AllReadyH.nil
    go_simp
    refine hK.out _ _ ?_ (fun hH => ?_)
    · exact ((Chg.refl Never w).alloc _).drew
    clear hK K
    try simp only [Act.put, List.setIfInBounds_toArray, List.set_cons_zero, List.set_cons_succ]
    refine wpAnyH_done (by kernel_rfl) ?_ _
    have hA : Chg Never w (w.alloc (.cells #[.int .u8 c.toNat, .string tx] 126)).drew := ((Chg.refl Never w).alloc _).drew
    have hxb := Blk2.new w 126 (.int .u8 c.toNat) (.string tx)
    have hxb : Blk2 (w.alloc (.cells #[.int .u8 c.toNat, .string tx] 126)).drew w.heap.size 126 (.int .u8 c.toNat) (.string tx) := hxb
    have hmlt := own_block_lt hlast.marks
    have hMne : w.heap.size ≠ B := by have := hbox.lt; omega
    have hMg : w.heap.size ≠ g := by omega
    have hbox := hbox.keep hA (fun h => h)
    have hlast := hlast.keep hA
    have hM1 : w.heap.size < (w.alloc (.cells #[.int .u8 c.toNat, .string tx] 126)).drew.heap.size := hxb.lt
    have hA2 := hA
    obtain ⟨M, hM⟩ : ∃ M, w.heap.size = M := ⟨_, rfl⟩
    generalize (w.alloc (.cells #[.int .u8 c.toNat, .string tx] 126)).drew = w1 at hA hA2 hxb hbox hlast hM1 ⊢
    have hmM : ∀ k, mv.ownBlock = some k → k < M := fun k hk => by rw [← hM]; exact hmlt k hk
    rw [hM] at hxb hMne hMg hM1 ⊢
    have HM := Lib.hid hM
    clear hM hmlt hA m2 m0 m1 hfr hg1 hsx
    obtain ⟨x0, x1⟩ := hxb.cell
    obtain ⟨c0, c1, c2⟩ := hbox.cell
    have hf1 := hbox.free 1
    have hf2 := hbox.free 2
    by_cases h32 : c = 32
    · have q32 : ((c.toNat : Int) == 32) = true := by rw [h32]; rfl
      have q45 : ((c.toNat : Int) == 45) = false := by rw [h32]; rfl
      have q43 : ((c.toNat : Int) == 43) = false := by rw [h32]; rfl
      by_cases ho : 0 < o
      · have tO : decide ((0 : Int) < (o : Int)) = true := decide_eq_true (by omega)
        have ton : decide (0 < o) = true := decide_eq_true ho
        by_cases hn : 0 < n
        · have hr : Hid (readLine (init ++ [q]) o n (c :: r) = some (init ++ [⟨q.old, q.new, q.marks ++ [⟨(c.toNat : Int), tx⟩]⟩], o - 1, n - 1)) := by
            rw [Hid, HR.out, if_pos ⟨h32, ho, hn⟩, add_mark, h32]; rfl
          obtain ⟨o1, rfl⟩ : ∃ o1, o = o1 + 1 := ⟨o - 1, by omega⟩
          obtain ⟨n1, rfl⟩ : ∃ n1, n = n1 + 1 := ⟨n - 1, by omega⟩
          clear h32 ho hn tO ton HR hopen
          have eo : (((o1 + 1 : Nat) : Int) - 1) = (o1 : Int) := by omega
          go_upto_region 12 with fail
          clear eo
          have hboxS : Blk3 ((w1.setCell ⟨B, 1, none⟩ (.int .i64 (o1 : Nat))).setCell ⟨B, 2, none⟩ (.int .i64 (n1 : Nat))) B 205 (.slice (some ⟨g, 0, none⟩) (init.length + 1) gcap) (.int .i64 (o1 : Nat)) (.int .i64 (n1 : Nat)) := (hbox.set1 _).set2 _
          have hS : Chg (fun k => k = B) w1 ((w1.setCell ⟨B, 1, none⟩ (.int .i64 (o1 : Nat))).setCell ⟨B, 2, none⟩ (.int .i64 (n1 : Nat))) := ((Chg.refl (fun k => k = B) w1).setCell (p := ⟨B, 1, none⟩) (.inr rfl) _).setCell (p := ⟨B, 2, none⟩) (.inr rfl) _
          have hlastS := hlast.keepO (O'' := RdO W0 B) hS (fun _ _ hk => .inr hk) (fun _ _ hk => hk)
          have x0 := hS.cell x0 hMne
          have x1 := hS.cell x1 hMne
          have hMS := Nat.lt_of_lt_of_le hM1 hS.size
          have hcS : Chg (RdC W0 B) w ((w1.setCell ⟨B, 1, none⟩ (.int .i64 (o1 : Nat))).setCell ⟨B, 2, none⟩ (.int .i64 (n1 : Nat))) := (hA2.mono (fun _ _ h => h.elim)).trans (hS.mono (fun k _ hk => .inl hk))
          clear hbox hlast hA2 hM1 hxb c0 c1 c2 hf1 hf2
          generalize (w1.setCell ⟨B, 1, none⟩ (.int .i64 (o1 : Nat))).setCell ⟨B, 2, none⟩ (.int .i64 (n1 : Nat)) = w2 at hboxS hS hlastS x0 x1 hMS hcS ⊢
          clear hS
          obtain ⟨g', gcap', hq, hg1, -, -, -, m2, m0, m1, hfr⟩ := hlastS.shape
          simp only [Value.slice.injEq, Option.some.injEq, Addr.mk.injEq, and_true, true_and] at hq
          obtain ⟨rfl, rfl⟩ := hq
          obtain ⟨c0, -, -⟩ := hboxS.cell
          have sw : IntKind.i64.wrap ((init.length : Int) + 1 - 1) = init.length := by rw [show (init.length : Int) + 1 - 1 = (init.length : Int) by omega]; exact IntWalk.i64_in _ (by omega)
          have sw2 : IntKind.i64.wrap (init.length : Int) = init.length := IntWalk.i64_in _ (by omega)
          have si : (init.length : Int) < (init.length : Int) + 1 := by omega
          go_quiet (fail)
          clear sw sw2 si c0
          have hq3 : Chg Never w2 (w2.drewN nq) := (Chg.refl Never w2).drewN nq
          have hlast3 := hlastS.keep hq3
          have hbox3 := hboxS.keep hq3 (fun h => h)
          have x0 : (w2.drewN nq).cell? ⟨M, 0, none⟩ = some (.int .u8 c.toNat) := x0
          have x1 : (w2.drewN nq).cell? ⟨M, 1, none⟩ = some (.string tx) := x1
          have m2 : (w2.drewN nq).cell? ⟨g, init.length * 3 + 2, none⟩ = some mv := m2
          have hfr : ∀ j, (w2.drewN nq).frozen? ⟨g, j, none⟩ = false := hfr
          have hg1 : g < (w2.drewN nq).heap.size := hg1
          have hc3 : Chg (RdC W0 B) w (w2.drewN nq) := hcS.trans (hq3.mono (fun _ _ h => h.elim))
          clear hlastS hboxS hq3 m0 m1 hcS
          generalize w2.drewN nq = w3 at hlast3 hbox3 x0 x1 m2 hfr hg1 hc3 ⊢
          go_wp2_with fail
          have hcd : Chg Never w3 w3.drew := (Chg.refl Never w3).drew
          have hmL := hlast3.keep hcd
          have hboxD := hbox3.keep hcd (fun h => h)
          have x0 : w3.drew.cell? ⟨M, 0, none⟩ = some (.int .u8 c.toNat) := x0
          have x1 : w3.drew.cell? ⟨M, 1, none⟩ = some (.string tx) := x1
          have m2 : w3.drew.cell? ⟨g, init.length * 3 + 2, none⟩ = some mv := m2
          have hfr : ∀ j, w3.drew.frozen? ⟨g, j, none⟩ = false := hfr
          have hg1 : g < w3.drew.heap.size := hg1
          have hcD : Chg (RdC W0 B) w w3.drew := hc3.trans (hcd.mono (fun _ _ h => h.elim))
          have hgM : ¬ OwnB mv g := by
            obtain ⟨_, _, qq, _⟩ := hmL.marks
            exact fun hh => qq g hh (.inr rfl)
          have hBM : ¬ OwnB mv B := by
            obtain ⟨_, _, qq, _⟩ := hmL.marks
            exact fun hh => qq B hh (.inl (.inr rfl))
          have hxM : ¬ OwnB mv M := fun hh => Nat.lt_irrefl _ (hmM M hh)
          have hgB : g ≠ B := fun e => hg2 (.inr e)
          have hgW : W0 ≤ g := by
            rcases Nat.lt_or_ge g W0 with h | h
            · exact absurd (.inl h) hg2
            · exact h
          have hmW : ∀ k, OwnB mv k → W0 ≤ k := fun k hk => by
            obtain ⟨_, _, qq, _⟩ := hmL.marks
            rcases Nat.lt_or_ge k W0 with h | h
            · exact absurd (.inl (.inl h)) (qq k hk)
            · exact h
          have hO : ∀ k, (RdO W0 B k ∨ (Value.slice (some ⟨g, 0, none⟩) (init.length + 1) gcap).ownBlock = some k) → k < w3.drew.heap.size := by
            have hBl := hboxD.lt
            rintro k ((h | rfl) | h)
            · have := hcD.size; omega
            · exact hBl
            · cases h; exact hg1
          have s0 : (0 : Int) ≤ (c.toNat : Int) := by omega
          have s1 : (c.toNat : Int) < 256 := by have := c.toNat_lt; omega
          have hlm : q.marks.length ≤ 1000000000 := by omega
          clear hlast3 hbox3 hcd hc3
          go_region_law ((refine step_push (by rfl) _ _ 127 (by rfl) elemOk_mark (O := fun k => RdO W0 B k ∨ (Value.slice (some ⟨g, 0, none⟩) (init.length + 1) gcap).ownBlock = some k) (l := q.marks) (y := ⟨(c.toNat : Int), tx⟩) (by rfl) (by rfl) (by simp) hmL.marks (rd_mark _ _ _ tx s0 s1 htz) hO hlm ?_; intro v' w5 hown2 hc2 hk2; obtain ⟨ad, nn, cc, rfl⟩ := own_slice hk2; have hfr5 : w5.frozen? ⟨g, init.length * 3 + 2, none⟩ = false := (hc2.frozen (p := ⟨g, init.length * 3 + 2, none⟩) hg1 hgM).trans (hfr _); have hcl5 : w5.cell? ⟨g, init.length * 3 + 2, none⟩ = some mv := hc2.cell (p := ⟨g, init.length * 3 + 2, none⟩) m2 hgM; have hb0 : w5.cell? ⟨M, 0, none⟩ = some (.int .u8 c.toNat) := hc2.cell (p := ⟨M, 0, none⟩) x0 hxM; have hb1 : w5.cell? ⟨M, 1, none⟩ = some (.string tx) := hc2.cell (p := ⟨M, 1, none⟩) x1 hxM))
          all_goals go_wp2_with fail
          all_goals
            have hst := OwnLast.stored hmL hown2 hc2 hk2
            have hbF := (hboxD.keep hc2 hBM).keep ((Chg.refl (fun k => k = g) w5).setCell (p := ⟨g, init.length * 3 + 2, none⟩) (.inr rfl) (.slice (some ad) nn cc)) (fun h => hgB h.symm)
            have hcF : Chg (RdC W0 B) w (w5.setCell ⟨g, init.length * 3 + 2, none⟩ (.slice (some ad) nn cc)) := (hcD.trans (hc2.mono (O' := RdC W0 B) (fun k _ hk => .inr (hmW k hk)))).setCell (.inr (show RdC W0 B g from .inr hgW)) _
            go_ret
            exact linePost_yes hr.out rfl hcF ⟨_, ⟨Nat.le_trans hbase hcF.size, hbF, .inr ⟨init, _, _, _, rfl, hst⟩⟩⟩
        · have tn : decide ((0 : Int) < (n : Int)) = false := decide_eq_false (by omega)
          have tnn : decide (0 < n) = false := decide_eq_false hn
          have hr : Hid (readLine (init ++ [q]) o n (c :: r) = none) := by
            rw [Hid, HR.out]
            rw [if_neg (fun q => hn q.2.2), if_neg (fun q => by rw [h32] at q; exact absurd q.1 (by decide)), if_neg (fun q => by rw [h32] at q; exact absurd q.1 (by decide))]
          have hcN : Chg (RdC W0 B) w w1 := hA2.mono (fun _ _ h => h.elim)
          clear HR hopen hlast hbox hA2
          go_wp2_with fail
          go_ret
          exact linePost_no hr.out rfl hcN
      · have tO : decide ((0 : Int) < (o : Int)) = false := decide_eq_false (by omega)
        have ton : decide (0 < o) = false := decide_eq_false ho
        have hr : Hid (readLine (init ++ [q]) o n (c :: r) = none) := by
          rw [Hid, HR.out]
          rw [if_neg (fun q => ho q.2.1), if_neg (fun q => ho q.2), if_neg (fun q => by rw [h32] at q; exact absurd q.1 (by decide))]
        have hcN : Chg (RdC W0 B) w w1 := hA2.mono (fun _ _ h => h.elim)
        clear HR hopen hlast hbox hA2
        go_wp2_with fail
        go_ret
        exact linePost_no hr.out rfl hcN
    · have q32 : ((c.toNat : Int) == 32) = false := byte_ne_int h32 rfl
      by_cases h45 : c = 45
      · have q45 : ((c.toNat : Int) == 45) = true := by rw [h45]; rfl
        have q43 : ((c.toNat : Int) == 43) = false := by rw [h45]; rfl
        by_cases ho : 0 < o
        · have tO : decide ((0 : Int) < (o : Int)) = true := decide_eq_true (by omega)
          have hr : Hid (readLine (init ++ [q]) o n (c :: r) = some (init ++ [⟨q.old, q.new, q.marks ++ [⟨(c.toNat : Int), tx⟩]⟩], o - 1, n)) := by
            rw [Hid, HR.out, if_neg (fun q => h32 q.1), if_pos ⟨h45, ho⟩, add_mark, h45]; rfl
          obtain ⟨o1, rfl⟩ : ∃ o1, o = o1 + 1 := ⟨o - 1, by omega⟩
          clear h32 h45 ho tO HR hopen
          go_upto_region 12 with fail
          have hboxS : Blk3 (w1.setCell ⟨B, 1, none⟩ (.int .i64 (o1 : Nat))) B 205 (.slice (some ⟨g, 0, none⟩) (init.length + 1) gcap) (.int .i64 (o1 : Nat)) (.int .i64 (n : Nat)) := hbox.set1 _
          have hS : Chg (fun k => k = B) w1 (w1.setCell ⟨B, 1, none⟩ (.int .i64 (o1 : Nat))) := (Chg.refl (fun k => k = B) w1).setCell (p := ⟨B, 1, none⟩) (.inr rfl) _
          have hlastS := hlast.keepO (O'' := RdO W0 B) hS (fun _ _ hk => .inr hk) (fun _ _ hk => hk)
          have x0 := hS.cell x0 hMne
          have x1 := hS.cell x1 hMne
          have hMS := Nat.lt_of_lt_of_le hM1 hS.size
          have hcS : Chg (RdC W0 B) w (w1.setCell ⟨B, 1, none⟩ (.int .i64 (o1 : Nat))) := (hA2.mono (fun _ _ h => h.elim)).trans (hS.mono (fun k _ hk => .inl hk))
          clear hbox hlast hA2 hM1 hxb c0 c1 c2 hf1 hf2
          generalize w1.setCell ⟨B, 1, none⟩ (.int .i64 (o1 : Nat)) = w2 at hboxS hS hlastS x0 x1 hMS hcS ⊢
          clear hS
          obtain ⟨g', gcap', hq, hg1, -, -, -, m2, m0, m1, hfr⟩ := hlastS.shape
          simp only [Value.slice.injEq, Option.some.injEq, Addr.mk.injEq, and_true, true_and] at hq
          obtain ⟨rfl, rfl⟩ := hq
          obtain ⟨c0, -, -⟩ := hboxS.cell
          have sw : IntKind.i64.wrap ((init.length : Int) + 1 - 1) = init.length := by rw [show (init.length : Int) + 1 - 1 = (init.length : Int) by omega]; exact IntWalk.i64_in _ (by omega)
          have sw2 : IntKind.i64.wrap (init.length : Int) = init.length := IntWalk.i64_in _ (by omega)
          have si : (init.length : Int) < (init.length : Int) + 1 := by omega
          go_quiet (fail)
          clear sw sw2 si c0
          have hq3 : Chg Never w2 (w2.drewN nq) := (Chg.refl Never w2).drewN nq
          have hlast3 := hlastS.keep hq3
          have hbox3 := hboxS.keep hq3 (fun h => h)
          have x0 : (w2.drewN nq).cell? ⟨M, 0, none⟩ = some (.int .u8 c.toNat) := x0
          have x1 : (w2.drewN nq).cell? ⟨M, 1, none⟩ = some (.string tx) := x1
          have m2 : (w2.drewN nq).cell? ⟨g, init.length * 3 + 2, none⟩ = some mv := m2
          have hfr : ∀ j, (w2.drewN nq).frozen? ⟨g, j, none⟩ = false := hfr
          have hg1 : g < (w2.drewN nq).heap.size := hg1
          have hc3 : Chg (RdC W0 B) w (w2.drewN nq) := hcS.trans (hq3.mono (fun _ _ h => h.elim))
          clear hlastS hboxS hq3 m0 m1 hcS
          generalize w2.drewN nq = w3 at hlast3 hbox3 x0 x1 m2 hfr hg1 hc3 ⊢
          go_wp2_with fail
          have hcd : Chg Never w3 w3.drew := (Chg.refl Never w3).drew
          have hmL := hlast3.keep hcd
          have hboxD := hbox3.keep hcd (fun h => h)
          have x0 : w3.drew.cell? ⟨M, 0, none⟩ = some (.int .u8 c.toNat) := x0
          have x1 : w3.drew.cell? ⟨M, 1, none⟩ = some (.string tx) := x1
          have m2 : w3.drew.cell? ⟨g, init.length * 3 + 2, none⟩ = some mv := m2
          have hfr : ∀ j, w3.drew.frozen? ⟨g, j, none⟩ = false := hfr
          have hg1 : g < w3.drew.heap.size := hg1
          have hcD : Chg (RdC W0 B) w w3.drew := hc3.trans (hcd.mono (fun _ _ h => h.elim))
          have hgM : ¬ OwnB mv g := by
            obtain ⟨_, _, qq, _⟩ := hmL.marks
            exact fun hh => qq g hh (.inr rfl)
          have hBM : ¬ OwnB mv B := by
            obtain ⟨_, _, qq, _⟩ := hmL.marks
            exact fun hh => qq B hh (.inl (.inr rfl))
          have hxM : ¬ OwnB mv M := fun hh => Nat.lt_irrefl _ (hmM M hh)
          have hgB : g ≠ B := fun e => hg2 (.inr e)
          have hgW : W0 ≤ g := by
            rcases Nat.lt_or_ge g W0 with h | h
            · exact absurd (.inl h) hg2
            · exact h
          have hmW : ∀ k, OwnB mv k → W0 ≤ k := fun k hk => by
            obtain ⟨_, _, qq, _⟩ := hmL.marks
            rcases Nat.lt_or_ge k W0 with h | h
            · exact absurd (.inl (.inl h)) (qq k hk)
            · exact h
          have hO : ∀ k, (RdO W0 B k ∨ (Value.slice (some ⟨g, 0, none⟩) (init.length + 1) gcap).ownBlock = some k) → k < w3.drew.heap.size := by
            have hBl := hboxD.lt
            rintro k ((h | rfl) | h)
            · have := hcD.size; omega
            · exact hBl
            · cases h; exact hg1
          have s0 : (0 : Int) ≤ (c.toNat : Int) := by omega
          have s1 : (c.toNat : Int) < 256 := by have := c.toNat_lt; omega
          have hlm : q.marks.length ≤ 1000000000 := by omega
          clear hlast3 hbox3 hcd hc3
          go_region_law ((refine step_push (by rfl) _ _ 127 (by rfl) elemOk_mark (O := fun k => RdO W0 B k ∨ (Value.slice (some ⟨g, 0, none⟩) (init.length + 1) gcap).ownBlock = some k) (l := q.marks) (y := ⟨(c.toNat : Int), tx⟩) (by rfl) (by rfl) (by simp) hmL.marks (rd_mark _ _ _ tx s0 s1 htz) hO hlm ?_; intro v' w5 hown2 hc2 hk2; obtain ⟨ad, nn, cc, rfl⟩ := own_slice hk2; have hfr5 : w5.frozen? ⟨g, init.length * 3 + 2, none⟩ = false := (hc2.frozen (p := ⟨g, init.length * 3 + 2, none⟩) hg1 hgM).trans (hfr _); have hcl5 : w5.cell? ⟨g, init.length * 3 + 2, none⟩ = some mv := hc2.cell (p := ⟨g, init.length * 3 + 2, none⟩) m2 hgM; have hb0 : w5.cell? ⟨M, 0, none⟩ = some (.int .u8 c.toNat) := hc2.cell (p := ⟨M, 0, none⟩) x0 hxM; have hb1 : w5.cell? ⟨M, 1, none⟩ = some (.string tx) := hc2.cell (p := ⟨M, 1, none⟩) x1 hxM))
          all_goals go_wp2_with fail
          all_goals
            have hst := OwnLast.stored hmL hown2 hc2 hk2
            have hbF := (hboxD.keep hc2 hBM).keep ((Chg.refl (fun k => k = g) w5).setCell (p := ⟨g, init.length * 3 + 2, none⟩) (.inr rfl) (.slice (some ad) nn cc)) (fun h => hgB h.symm)
            have hcF : Chg (RdC W0 B) w (w5.setCell ⟨g, init.length * 3 + 2, none⟩ (.slice (some ad) nn cc)) := (hcD.trans (hc2.mono (O' := RdC W0 B) (fun k _ hk => .inr (hmW k hk)))).setCell (.inr (show RdC W0 B g from .inr hgW)) _
            go_ret
            exact linePost_yes hr.out rfl hcF ⟨_, ⟨Nat.le_trans hbase hcF.size, hbF, .inr ⟨init, _, _, _, rfl, hst⟩⟩⟩
        · have tO : decide ((0 : Int) < (o : Int)) = false := decide_eq_false (by omega)
          have ton : decide (0 < o) = false := decide_eq_false ho
          have hr : Hid (readLine (init ++ [q]) o n (c :: r) = none) := by
            rw [Hid, HR.out]
            rw [if_neg (fun q => ho q.2.1), if_neg (fun q => ho q.2), if_neg (fun q => by rw [h45] at q; exact absurd q.1 (by decide))]
          have hcN : Chg (RdC W0 B) w w1 := hA2.mono (fun _ _ h => h.elim)
          clear HR hopen hlast hbox hA2
          go_wp2_with fail
          go_ret
          exact linePost_no hr.out rfl hcN
      · have q45 : ((c.toNat : Int) == 45) = false := byte_ne_int h45 rfl
        by_cases h43 : c = 43
        · have q43 : ((c.toNat : Int) == 43) = true := by rw [h43]; rfl
          by_cases hn : 0 < n
          · have tn : decide ((0 : Int) < (n : Int)) = true := decide_eq_true (by omega)
            have hr : Hid (readLine (init ++ [q]) o n (c :: r) = some (init ++ [⟨q.old, q.new, q.marks ++ [⟨(c.toNat : Int), tx⟩]⟩], o, n - 1)) := by
              rw [Hid, HR.out, if_neg (fun q => h32 q.1), if_neg (fun q => h45 q.1), if_pos ⟨h43, hn⟩, add_mark, h43]; rfl
            obtain ⟨n1, rfl⟩ : ∃ n1, n = n1 + 1 := ⟨n - 1, by omega⟩
            clear h32 h45 h43 hn tn HR hopen
            go_upto_region 12 with fail
            have hboxS : Blk3 (w1.setCell ⟨B, 2, none⟩ (.int .i64 (n1 : Nat))) B 205 (.slice (some ⟨g, 0, none⟩) (init.length + 1) gcap) (.int .i64 (o : Nat)) (.int .i64 (n1 : Nat)) := hbox.set2 _
            have hS : Chg (fun k => k = B) w1 (w1.setCell ⟨B, 2, none⟩ (.int .i64 (n1 : Nat))) := (Chg.refl (fun k => k = B) w1).setCell (p := ⟨B, 2, none⟩) (.inr rfl) _
            have hlastS := hlast.keepO (O'' := RdO W0 B) hS (fun _ _ hk => .inr hk) (fun _ _ hk => hk)
            have x0 := hS.cell x0 hMne
            have x1 := hS.cell x1 hMne
            have hMS := Nat.lt_of_lt_of_le hM1 hS.size
            have hcS : Chg (RdC W0 B) w (w1.setCell ⟨B, 2, none⟩ (.int .i64 (n1 : Nat))) := (hA2.mono (fun _ _ h => h.elim)).trans (hS.mono (fun k _ hk => .inl hk))
            clear hbox hlast hA2 hM1 hxb c0 c1 c2 hf1 hf2
            generalize w1.setCell ⟨B, 2, none⟩ (.int .i64 (n1 : Nat)) = w2 at hboxS hS hlastS x0 x1 hMS hcS ⊢
            clear hS
            obtain ⟨g', gcap', hq, hg1, -, -, -, m2, m0, m1, hfr⟩ := hlastS.shape
            simp only [Value.slice.injEq, Option.some.injEq, Addr.mk.injEq, and_true, true_and] at hq
            obtain ⟨rfl, rfl⟩ := hq
            obtain ⟨c0, -, -⟩ := hboxS.cell
            have sw : IntKind.i64.wrap ((init.length : Int) + 1 - 1) = init.length := by rw [show (init.length : Int) + 1 - 1 = (init.length : Int) by omega]; exact IntWalk.i64_in _ (by omega)
            have sw2 : IntKind.i64.wrap (init.length : Int) = init.length := IntWalk.i64_in _ (by omega)
            have si : (init.length : Int) < (init.length : Int) + 1 := by omega
            go_quiet (fail)
            clear sw sw2 si c0
            have hq3 : Chg Never w2 (w2.drewN nq) := (Chg.refl Never w2).drewN nq
            have hlast3 := hlastS.keep hq3
            have hbox3 := hboxS.keep hq3 (fun h => h)
            have x0 : (w2.drewN nq).cell? ⟨M, 0, none⟩ = some (.int .u8 c.toNat) := x0
            have x1 : (w2.drewN nq).cell? ⟨M, 1, none⟩ = some (.string tx) := x1
            have m2 : (w2.drewN nq).cell? ⟨g, init.length * 3 + 2, none⟩ = some mv := m2
            have hfr : ∀ j, (w2.drewN nq).frozen? ⟨g, j, none⟩ = false := hfr
            have hg1 : g < (w2.drewN nq).heap.size := hg1
            have hc3 : Chg (RdC W0 B) w (w2.drewN nq) := hcS.trans (hq3.mono (fun _ _ h => h.elim))
            clear hlastS hboxS hq3 m0 m1 hcS
            generalize w2.drewN nq = w3 at hlast3 hbox3 x0 x1 m2 hfr hg1 hc3 ⊢
            go_wp2_with fail
            have hcd : Chg Never w3 w3.drew := (Chg.refl Never w3).drew
            have hmL := hlast3.keep hcd
            have hboxD := hbox3.keep hcd (fun h => h)
            have x0 : w3.drew.cell? ⟨M, 0, none⟩ = some (.int .u8 c.toNat) := x0
            have x1 : w3.drew.cell? ⟨M, 1, none⟩ = some (.string tx) := x1
            have m2 : w3.drew.cell? ⟨g, init.length * 3 + 2, none⟩ = some mv := m2
            have hfr : ∀ j, w3.drew.frozen? ⟨g, j, none⟩ = false := hfr
            have hg1 : g < w3.drew.heap.size := hg1
            have hcD : Chg (RdC W0 B) w w3.drew := hc3.trans (hcd.mono (fun _ _ h => h.elim))
            have hgM : ¬ OwnB mv g := by
              obtain ⟨_, _, qq, _⟩ := hmL.marks
              exact fun hh => qq g hh (.inr rfl)
            have hBM : ¬ OwnB mv B := by
              obtain ⟨_, _, qq, _⟩ := hmL.marks
              exact fun hh => qq B hh (.inl (.inr rfl))
            have hxM : ¬ OwnB mv M := fun hh => Nat.lt_irrefl _ (hmM M hh)
            have hgB : g ≠ B := fun e => hg2 (.inr e)
            have hgW : W0 ≤ g := by
              rcases Nat.lt_or_ge g W0 with h | h
              · exact absurd (.inl h) hg2
              · exact h
            have hmW : ∀ k, OwnB mv k → W0 ≤ k := fun k hk => by
              obtain ⟨_, _, qq, _⟩ := hmL.marks
              rcases Nat.lt_or_ge k W0 with h | h
              · exact absurd (.inl (.inl h)) (qq k hk)
              · exact h
            have hO : ∀ k, (RdO W0 B k ∨ (Value.slice (some ⟨g, 0, none⟩) (init.length + 1) gcap).ownBlock = some k) → k < w3.drew.heap.size := by
              have hBl := hboxD.lt
              rintro k ((h | rfl) | h)
              · have := hcD.size; omega
              · exact hBl
              · cases h; exact hg1
            have s0 : (0 : Int) ≤ (c.toNat : Int) := by omega
            have s1 : (c.toNat : Int) < 256 := by have := c.toNat_lt; omega
            have hlm : q.marks.length ≤ 1000000000 := by omega
            clear hlast3 hbox3 hcd hc3
            go_region_law ((refine step_push (by rfl) _ _ 127 (by rfl) elemOk_mark (O := fun k => RdO W0 B k ∨ (Value.slice (some ⟨g, 0, none⟩) (init.length + 1) gcap).ownBlock = some k) (l := q.marks) (y := ⟨(c.toNat : Int), tx⟩) (by rfl) (by rfl) (by simp) hmL.marks (rd_mark _ _ _ tx s0 s1 htz) hO hlm ?_; intro v' w5 hown2 hc2 hk2; obtain ⟨ad, nn, cc, rfl⟩ := own_slice hk2; have hfr5 : w5.frozen? ⟨g, init.length * 3 + 2, none⟩ = false := (hc2.frozen (p := ⟨g, init.length * 3 + 2, none⟩) hg1 hgM).trans (hfr _); have hcl5 : w5.cell? ⟨g, init.length * 3 + 2, none⟩ = some mv := hc2.cell (p := ⟨g, init.length * 3 + 2, none⟩) m2 hgM; have hb0 : w5.cell? ⟨M, 0, none⟩ = some (.int .u8 c.toNat) := hc2.cell (p := ⟨M, 0, none⟩) x0 hxM; have hb1 : w5.cell? ⟨M, 1, none⟩ = some (.string tx) := hc2.cell (p := ⟨M, 1, none⟩) x1 hxM))
            all_goals go_wp2_with fail
            all_goals
              have hst := OwnLast.stored hmL hown2 hc2 hk2
              have hbF := (hboxD.keep hc2 hBM).keep ((Chg.refl (fun k => k = g) w5).setCell (p := ⟨g, init.length * 3 + 2, none⟩) (.inr rfl) (.slice (some ad) nn cc)) (fun h => hgB h.symm)
              have hcF : Chg (RdC W0 B) w (w5.setCell ⟨g, init.length * 3 + 2, none⟩ (.slice (some ad) nn cc)) := (hcD.trans (hc2.mono (O' := RdC W0 B) (fun k _ hk => .inr (hmW k hk)))).setCell (.inr (show RdC W0 B g from .inr hgW)) _
              go_ret
              exact linePost_yes hr.out rfl hcF ⟨_, ⟨Nat.le_trans hbase hcF.size, hbF, .inr ⟨init, _, _, _, rfl, hst⟩⟩⟩
          · have tn : decide ((0 : Int) < (n : Int)) = false := decide_eq_false (by omega)
            have tnn : decide (0 < n) = false := decide_eq_false hn
            have hr : Hid (readLine (init ++ [q]) o n (c :: r) = none) := by
              rw [Hid, HR.out]
              rw [if_neg (fun q => h32 q.1), if_neg (fun q => h45 q.1), if_neg (fun q => hn q.2)]
            have hcN : Chg (RdC W0 B) w w1 := hA2.mono (fun _ _ h => h.elim)
            clear HR hopen hlast hbox hA2
            go_wp2_with fail
            go_ret
            exact linePost_no hr.out rfl hcN
        · have q43 : ((c.toNat : Int) == 43) = false := byte_ne_int h43 rfl
          have hr : Hid (readLine (init ++ [q]) o n (c :: r) = none) := by
            rw [Hid, HR.out]
            rw [if_neg (fun q => h32 q.1), if_neg (fun q => h45 q.1), if_neg (fun q => h43 q.1)]
          have hcN : Chg (RdC W0 B) w w1 := hA2.mono (fun _ _ h => h.elim)
          clear HR hopen hlast hbox hA2
          go_wp2_with fail
          go_ret
          exact linePost_no hr.out rfl hcN
end Go.Proofs.YtjiaidchcldocaaGreatDoor
namespace Go.Proofs.YtjiaidchcldocaaGreatDoor
open Go.RowKit

theorem lib_pre (s p : List UInt8) : (dropPre p s = none ∧ Lib.hasPrefix s p = false ∧ Lib.trimPrefix s p = s) ∨ ∃ r, dropPre p s = some r ∧ Lib.hasPrefix s p = true ∧ Lib.trimPrefix s p = r := by
  unfold dropPre Lib.trimPrefix Lib.hasPrefix
  by_cases h : p.isPrefixOf s = true
  · exact .inr ⟨_, by rw [if_pos h], h, by rw [if_pos h]⟩
  · exact .inl ⟨by rw [if_neg h], Bool.eq_false_iff.2 h, by rw [if_neg h]⟩
theorem lib_suf (s p : List UInt8) : (dropSuf p s = none ∧ Lib.hasSuffix s p = false ∧ Lib.trimSuffix s p = s) ∨ ∃ r, dropSuf p s = some r ∧ Lib.hasSuffix s p = true ∧ Lib.trimSuffix s p = r := by
  unfold dropSuf Lib.trimSuffix Lib.hasSuffix
  by_cases h : p.isSuffixOf s = true
  · exact .inr ⟨_, by rw [if_pos h], h, by rw [if_pos h]⟩
  · exact .inl ⟨by rw [if_neg h], Bool.eq_false_iff.2 h, by rw [if_neg h]⟩
theorem head_tests (s : List UInt8) : ∃ (p1 p2 p3 : Bool) (s1 s2 ca cb : List UInt8), Lib.hasPrefix s atAt = p1 ∧ Lib.trimPrefix s atAt = s1 ∧ Lib.hasSuffix s1 endAt = p2 ∧ Lib.trimSuffix s1 endAt = s2 ∧ Lib.cut s2 [32, 43] = (ca, cb, p3) ∧
    s1.length ≤ s.length ∧ s2.length ≤ s.length ∧ ca.length ≤ s.length ∧ cb.length ≤ s.length ∧
    headOf s = if p1 = true ∧ p2 = true ∧ p3 = true then (match spanOf ca with
          | none => none
          | some (a, x) => match spanOf cb with
            | none => none
            | some (b, y) => some (a, x, b, y)) else none := by
  have hc := lib_cut (t := [32, 43]) (s := Lib.trimSuffix (Lib.trimPrefix s atAt) endAt) (by simp)
  have l1 : (Lib.trimPrefix s atAt).length ≤ s.length := by
    unfold Lib.trimPrefix; split
    · rw [List.length_drop]; omega
    · exact Nat.le_refl _
  have l2 : (Lib.trimSuffix (Lib.trimPrefix s atAt) endAt).length ≤ s.length := by
    unfold Lib.trimSuffix; split
    · rw [List.length_take]; omega
    · exact l1
  have l3 := cutA_len [32, 43] (Lib.trimSuffix (Lib.trimPrefix s atAt) endAt)
  have l4 := cutB_len [32, 43] (Lib.trimSuffix (Lib.trimPrefix s atAt) endAt)
  refine ⟨_, _, _, _, _, _, _, rfl, rfl, rfl, rfl, hc, l1, l2, by omega, by omega, ?_⟩
  unfold headOf
  rcases lib_pre s atAt with ⟨h1, h2, h3⟩ | ⟨r, h1, h2, h3⟩
  · rw [h1, h2, if_neg (by simp)]
  · rw [h1, h2, h3]
    simp only
    rcases lib_suf r endAt with ⟨g1, g2, g3⟩ | ⟨q, g1, g2, g3⟩
    · rw [g1, g2, if_neg (by simp)]
    · rw [g1, g2, g3]
      simp only
      unfold cutA cutB
      cases hcu : cutSub [32, 43] q with
      | none => rw [if_neg (by simp)]
      | some p =>
        simp
        rfl
theorem rl_head {hs : List Hunk} {o n : Nat} (h : ¬ (0 < o ∨ 0 < n)) (s : List UInt8) : readLine hs o n s = match headOf s with
    | none => none
    | some (a, x, b, y) => some (hs ++ [⟨a, b, []⟩], x, y) := by unfold readLine; rw [if_neg h]; rfl

set_option maxHeartbeats 2000000 in
set_option maxRecDepth 100000 in
theorem reader_line (W0 B : Nat) (v : Value) (hs : List Hunk) (o n : Nat) (s : ByteArray) (w : World) (h : RdrAt w W0 B v hs o n) (hk : RdOk hs o n) (hs1 : s.size ≤ 1000000000) (hon : o ≤ 1000000 ∧ n ≤ 1000000)
    (hb : hs.length ≤ 1000000) (hml : ∀ h ∈ hs, h.marks.length ≤ 1000000) (m : Int) (hg : Globs w m) :
    Calls Tryz.prog 122 #[.pointer (some ⟨B, 0, none⟩), .string s] w (LinePost W0 B hs o n s.data.toList w) := by
  by_cases hop : 0 < o ∨ 0 < n
  · have HO := Lib.hid (opn_true hop)
    have HC := Lib.hid (reader_mark W0 B v hs o n s w h hop (hk hop) hs1 hon hb hml)
    have hbox := h.box
    clear hml hk hop
    go_enter Tryz.func122, Tryz.ntmps122
    go_wp2_with fail
    refine (rd_open B v o n _ hbox).mono ?_
    rintro e w1 ⟨rfl, rfl⟩
    rw [HO.out]
    go_wp2_with fail
    refine HC.out.mono ?_
    rintro e w2 ⟨hc, hp⟩
    cases hr : readLine hs o n s.data.toList with
    | none =>
      rw [hr] at hp
      subst hp
      have HR := Lib.hid hr
      clear hr HC
      go_wp2_with fail
      go_ret
      exact linePost_no HR.out rfl hc
    | some p =>
      obtain ⟨hs', o', n'⟩ := p
      rw [hr] at hp
      obtain ⟨rfl, hp⟩ := hp
      have HR := Lib.hid hr
      have HP := Lib.hid hp
      clear hr hp HC
      go_wp2_with fail
      go_ret
      exact linePost_yes HR.out rfl hc HP.out
  · have HO := Lib.hid (opn_false hop)
    have HR := Lib.hid (rl_head (hs := hs) hop s.data.toList)
    have hbox := h.box
    have hbase := h.base
    have hown := h.own
    obtain ⟨p1, p2, p3, s1, s2, ca, cb, e1, e2, e3, e4, e5, l1, l2, l3, l4, hh⟩ := head_tests s.data.toList
    have HH := Lib.hid hh
    have E1 := Lib.hid e1
    have E2 := Lib.hid e2
    have E3 := Lib.hid e3
    have E4 := Lib.hid e4
    have E5 := Lib.hid e5
    rw [← Lib.size_eq] at l1 l2 l3 l4
    clear e1 e2 e3 e4 e5 hh hml hk hop h
    go_enter Tryz.func122, Tryz.ntmps122
    go_wp2_with fail
    refine (rd_open B v o n _ hbox).mono ?_
    rintro e w1 ⟨rfl, rfl⟩
    rename World => w
    rw [HO.out]
    go_wp2_with fail
    refine (Tryz.strings_CutPrefix s (toB atAt) _).mono ?_
    rintro e w1 ⟨rfl, rfl⟩
    rename World => w
    rw [toB_data, E1.out, E2.out]
    rw [show (⟨s1.toArray⟩ : ByteArray) = toB s1 from rfl]
    go_wp2_with fail
    refine (Tryz.strings_CutSuffix (toB s1) (toB endAt) _ (by rw [toB_size']; omega)).mono ?_
    rintro e w1 ⟨rfl, rfl⟩
    rename World => w
    rw [toB_data, toB_data, E3.out, E4.out]
    rw [show (⟨s2.toArray⟩ : ByteArray) = toB s2 from rfl]
    go_wp2_with fail
    refine (Tryz.strings_Cut (toB s2) (toB [32, 43]) m _ (by rw [toB_size']; omega) hg.ml).mono ?_
    rintro e w2 ⟨rfl, nd, rfl⟩
    have hc : Chg Never w (w.drewN nd) := (Chg.refl Never w).drewN nd
    rw [toB_data, toB_data, E5.out]
    rw [show (⟨ca.toArray⟩ : ByteArray) = toB ca from rfl, show (⟨cb.toArray⟩ : ByteArray) = toB cb from rfl]
    generalize w.drewN nd = w2 at hc ⊢
    go_wp2_with fail
    refine (read_any (toB ca) (by rw [toB_size']; omega) _ m (hg.never hc)).mono ?_
    rintro e w3 ⟨x, y, rfl, hxy, hc3⟩
    have hc := hc.trans hc3
    rw [toB_data] at hxy ⊢
    go_wp2_with fail
    refine (read_any (toB cb) (by rw [toB_size']; omega) _ m (hg.never hc)).mono ?_
    rintro e w4 ⟨x', y', rfl, hxy', hc4⟩
    have hc := hc.trans hc4
    rw [toB_data] at hxy' ⊢
    clear hc3 hc4 E1 E2 E3 E4 E5
    cases p1 with
    | false =>
      have hr : Hid (readLine hs o n s.data.toList = none) := by
        rw [Hid, HR.out, HH.out]
        simp
      have hcN : Chg (RdC W0 B) w _ := hc.mono (O' := RdC W0 B) (fun _ _ h => h.elim)
      clear HR HH
      go_wp2_with fail
      go_ret
      exact linePost_no hr.out rfl hcN
    | true =>
      cases p2 with
      | false =>
        have hr : Hid (readLine hs o n s.data.toList = none) := by
          rw [Hid, HR.out, HH.out]
          simp
        have hcN : Chg (RdC W0 B) w _ := hc.mono (O' := RdC W0 B) (fun _ _ h => h.elim)
        clear HR HH
        go_wp2_with fail
        go_ret
        exact linePost_no hr.out rfl hcN
      | true =>
        cases p3 with
        | false =>
          have hr : Hid (readLine hs o n s.data.toList = none) := by
            rw [Hid, HR.out, HH.out]
            simp
          have hcN : Chg (RdC W0 B) w _ := hc.mono (O' := RdC W0 B) (fun _ _ h => h.elim)
          clear HR HH
          go_wp2_with fail
          go_ret
          exact linePost_no hr.out rfl hcN
        | true =>
          cases ha : spanOf ca with
          | none =>
            rw [ha] at HH
            rw [Option.isSome_none]
            clear ha hxy hxy'
            generalize (spanOf cb).isSome = f5
            have hr : Hid (readLine hs o n s.data.toList = none) := by
              rw [Hid, HR.out, HH.out]
              simp
            have hcN : Chg (RdC W0 B) w _ := hc.mono (O' := RdC W0 B) (fun _ _ h => h.elim)
            clear HR HH
            go_wp2_with fail
            go_ret
            exact linePost_no hr.out rfl hcN
          | some p =>
            obtain ⟨a, xa⟩ := p
            obtain ⟨rfl, rfl⟩ := hxy a xa ha
            rw [ha] at HH
            rw [Option.isSome_some]
            cases hb2 : spanOf cb with
            | none =>
              rw [hb2] at HH
              rw [Option.isSome_none]
              clear ha hxy hxy' hb2
              have hr : Hid (readLine hs o n s.data.toList = none) := by
                rw [Hid, HR.out, HH.out]
                simp
              have hcN : Chg (RdC W0 B) w _ := hc.mono (O' := RdC W0 B) (fun _ _ h => h.elim)
              clear HR HH
              go_wp2_with fail
              go_ret
              exact linePost_no hr.out rfl hcN
            | some p =>
              obtain ⟨b, xb⟩ := p
              obtain ⟨rfl, rfl⟩ := hxy' b xb hb2
              rw [hb2] at HH
              rw [Option.isSome_some]
              have hr : Hid (readLine hs o n s.data.toList = some (hs ++ [⟨x, x', []⟩], xa, xb)) := by
                rw [Hid, HR.out, HH.out]
                simp
              have hbox4 := hbox.keep hc (fun h => h)
              have hown4 := hown.never hc
              have hBl := hbox4.lt
              obtain ⟨c0, c1, c2⟩ := hbox4.cell
              have hfr := hbox4.free
              have hO : ∀ k, RdO W0 B k → k < w4.heap.size := by
                rintro k (hk | rfl)
                · have := hc.size; omega
                · exact hBl
              obtain ⟨va, vn, vc, rfl⟩ := own_isSlice hown4
              have hBv : ¬ OwnB (.slice va vn vc) B := by
                obtain ⟨_, _, qq, _⟩ := hown4
                exact fun hh => qq B hh (.inr rfl)
              have hvW : ∀ k, OwnB (.slice va vn vc) k → W0 ≤ k := fun k hk => by
                obtain ⟨_, _, qq, _⟩ := hown4
                rcases Nat.lt_or_ge k W0 with h | h
                · exact absurd (.inl h) (qq k hk)
                · exact h
              have hlen : hs.length ≤ 1000000000 := by omega
              clear HR HH ha hb2 hxy hxy' hbox hown
              go_wp2_with (at_builtin; refine wpList_push_last (by rfl) _ _ 83 (by rfl) 126 elemOk_hunk (O := RdO W0 B) (by rfl) (by rfl) (by simp) hown4 hO hlen ?_; intro v' w5 xs hlast hc5; obtain ⟨g', gc', rfl, -, -, -, -, -, -, -, -⟩ := hlast.shape; have hbox5 := hbox4.keep hc5 hBv; have hfr5 := hbox5.free 0; have hfr51 := hbox5.free 1; have hfr52 := hbox5.free 2; obtain ⟨d0, d1, d2⟩ := hbox5.cell)
              have hcF : Chg (RdC W0 B) w ((((w5.setCell ⟨B, 0, none⟩ (.slice (some ⟨g', 0, none⟩) (hs.length + 1) gc')).setCell ⟨B, 1, none⟩ (.int .i64 (xa : Nat))).setCell ⟨B, 2, none⟩ (.int .i64 (xb : Nat)))) :=
                ((((hc.mono (O' := RdC W0 B) (fun _ _ h => h.elim)).trans (hc5.mono (O' := RdC W0 B) (fun k _ hk => .inr (hvW k hk)))).setCell (.inr (show RdC W0 B B from .inl rfl)) _).setCell (.inr (show RdC W0 B B from .inl rfl)) _).setCell (.inr (show RdC W0 B B from .inl rfl)) _
              have hSB : Chg (fun k => k = B) w5 ((((w5.setCell ⟨B, 0, none⟩ (.slice (some ⟨g', 0, none⟩) (hs.length + 1) gc')).setCell ⟨B, 1, none⟩ (.int .i64 (xa : Nat))).setCell ⟨B, 2, none⟩ (.int .i64 (xb : Nat)))) :=
                (((Chg.refl (fun k => k = B) w5).setCell (p := ⟨B, 0, none⟩) (.inr rfl) _).setCell (p := ⟨B, 1, none⟩) (.inr rfl) _).setCell (p := ⟨B, 2, none⟩) (.inr rfl) _
              have hRF : ∃ v', RdrAt ((((w5.setCell ⟨B, 0, none⟩ (.slice (some ⟨g', 0, none⟩) (hs.length + 1) gc')).setCell ⟨B, 1, none⟩ (.int .i64 (xa : Nat))).setCell ⟨B, 2, none⟩ (.int .i64 (xb : Nat)))) W0 B v' (hs ++ [⟨x, x', []⟩]) xa xb :=
                ⟨_, Nat.le_trans hbase hcF.size, ((hbox5.set0 _).set1 _).set2 _, .inr ⟨hs, _, _, _, rfl, hlast.keepO hSB (fun _ _ hk => .inr hk) (fun _ _ hk => hk)⟩⟩
              have HRF := Lib.hid hRF
              have HCF := Lib.hid hcF
              clear hRF hcF hSB hlast hc5 hbox4 hbox5 hown4 c0 c1 c2 hfr hc
              go_wp2_with fail
              go_ret
              exact linePost_yes hr.out rfl HCF.out HRF.out
end Go.Proofs.YtjiaidchcldocaaGreatDoor
namespace Go.Proofs.YtjiaidchcldocaaGreatDoor

def mmA : List UInt8 := [45, 45, 45, 32, 97, 47]
def ppB : List UInt8 := [43, 43, 43, 32, 98, 47]
def mmN : List UInt8 := [45, 45, 45, 32, 47, 100, 101, 118, 47, 110, 117, 108, 108]
def ppN : List UInt8 := [43, 43, 43, 32, 47, 100, 101, 118, 47, 110, 117, 108, 108]
theorem pre_pre (p q a : List UInt8) : dropPre (p ++ q) a = match dropPre p a with
    | none => none
    | some r => dropPre q r := by
  cases h : dropPre p a with
  | none =>
    simp only
    unfold dropPre at h ⊢
    rw [if_neg]
    intro e
    rw [if_pos] at h
    · cases h
    · obtain ⟨t, ht⟩ := List.isPrefixOf_iff_prefix.1 e
      exact List.isPrefixOf_iff_prefix.2 ⟨q ++ t, by rw [← ht]; simp⟩
  | some r =>
    have e := pre_some h
    subst e
    simp only
    unfold dropPre
    by_cases hq : q.isPrefixOf r = true
    · obtain ⟨t, ht⟩ := List.isPrefixOf_iff_prefix.1 hq
      rw [if_pos hq, if_pos (List.isPrefixOf_iff_prefix.2 ⟨t, by rw [← ht]; simp⟩), List.length_append, ← List.drop_drop, List.drop_left]
    · rw [if_neg hq, if_neg]
      intro e
      obtain ⟨t, ht⟩ := List.isPrefixOf_iff_prefix.1 e
      rw [List.append_assoc] at ht
      exact hq (List.isPrefixOf_iff_prefix.2 ⟨t, List.append_cancel_left ht⟩)
theorem pre_eq {p a x : List UInt8} (h : dropPre p a = some x) (n : List UInt8) : x = n ↔ a = p ++ n := by
  rw [pre_some h]
  exact ⟨fun e => by rw [e], fun e => List.append_cancel_left e⟩
theorem headed_ref (a b : List UInt8) : headedL a b =
    if mmA.isPrefixOf a = true ∧ ppB.isPrefixOf b = true ∧ a.drop 6 = b.drop 6 then some (1, a.drop 6)
    else if a = mmN ∧ ppB.isPrefixOf b = true then some (2, b.drop 6)
    else if mmA.isPrefixOf a = true ∧ b = ppN then some (3, a.drop 6) else none := by
  have hA : dropPre mmA a = match dropPre mmL a with
    | none => none
    | some r => dropPre [97, 47] r := pre_pre mmL [97, 47] a
  have hB : dropPre ppB b = match dropPre ppL b with
    | none => none
    | some r => dropPre [98, 47] r := pre_pre ppL [98, 47] b
  have iA : ∀ f, dropPre mmA a = some f → mmA.isPrefixOf a = true ∧ a.drop 6 = f := fun f e => by
    unfold dropPre at e
    by_cases q : mmA.isPrefixOf a = true
    · rw [if_pos q] at e
      injection e with e
      exact ⟨q, e⟩
    · rw [if_neg q] at e; cases e
  have nA : dropPre mmA a = none → ¬ mmA.isPrefixOf a = true := fun e q => by
    unfold dropPre at e
    rw [if_pos q] at e; cases e
  have iB : ∀ f, dropPre ppB b = some f → ppB.isPrefixOf b = true ∧ b.drop 6 = f := fun f e => by
    unfold dropPre at e
    by_cases q : ppB.isPrefixOf b = true
    · rw [if_pos q] at e
      injection e with e
      exact ⟨q, e⟩
    · rw [if_neg q] at e; cases e
  have nB : dropPre ppB b = none → ¬ ppB.isPrefixOf b = true := fun e q => by
    unfold dropPre at e
    rw [if_pos q] at e; cases e
  have mA : a = mmN → ¬ mmA.isPrefixOf a = true := fun e => by rw [e]; decide
  have mB : b = ppN → ¬ ppB.isPrefixOf b = true := fun e => by rw [e]; decide
  have hmN : mmN = mmL ++ noneL := rfl
  have hpN : ppN = ppL ++ noneL := rfl
  unfold headedL
  cases ha : dropPre mmL a with
  | none =>
    rw [ha] at hA
    have q1 := nA hA
    have q2 : a ≠ mmN := fun e => by rw [e, hmN, pre_app] at ha; cases ha
    rw [if_neg (fun q => q1 q.1), if_neg (fun q => q2 q.1), if_neg (fun q => q1 q.1)]
  | some x =>
    rw [ha] at hA
    simp only at hA
    cases hb : dropPre ppL b with
    | none =>
      rw [hb] at hB
      have q1 := nB hB
      have q2 : b ≠ ppN := fun e => by rw [e, hpN, pre_app] at hb; cases hb
      rw [if_neg (fun q => q1 q.2.1), if_neg (fun q => q1 q.2), if_neg (fun q => q2 q.2)]
    | some y =>
      rw [hb] at hB
      simp only at hB ⊢
      unfold headedR
      cases hf : dropPre [97, 47] x with
      | none =>
        rw [hf] at hA
        have q1 := nA hA
        rw [if_neg (fun q => q1 q.1), if_neg (c := _ ∧ b = ppN) (fun q => q1 q.1)]
        cases ht : dropPre [98, 47] y with
        | none =>
          rw [ht] at hB
          rw [if_neg (fun q => nB hB q.2)]
        | some t =>
          rw [ht] at hB
          obtain ⟨q2, q3⟩ := iB _ hB
          simp only
          by_cases e : x = noneL
          · rw [if_pos e, if_pos ⟨(pre_eq ha noneL).1 e, q2⟩, q3]
          · rw [if_neg e, if_neg (fun q => e ((pre_eq ha noneL).2 q.1))]
      | some f =>
        rw [hf] at hA
        obtain ⟨q1, q4⟩ := iA _ hA
        have q5 : ¬ (a = mmN ∧ ppB.isPrefixOf b = true) := fun q => mA q.1 q1
        cases ht : dropPre [98, 47] y with
        | none =>
          rw [ht] at hB
          have q2 := nB hB
          simp only
          have q6 : ¬ (mmA.isPrefixOf a = true ∧ ppB.isPrefixOf b = true ∧ a.drop 6 = b.drop 6) := fun q => q2 q.2.1
          by_cases e : y = noneL
          · rw [if_pos e, if_neg q6, if_neg q5, if_pos ⟨q1, (pre_eq hb noneL).1 e⟩, q4]
          · have q7 : ¬ (mmA.isPrefixOf a = true ∧ b = ppN) := fun q => e ((pre_eq hb noneL).2 q.2)
            rw [if_neg e, if_neg q6, if_neg q5, if_neg q7]
        | some t =>
          rw [ht] at hB
          obtain ⟨q2, q3⟩ := iB _ hB
          simp only
          rw [q3, q4]
          by_cases e : f = t
          · rw [if_pos e, if_pos ⟨q1, q2, e⟩]
          · rw [if_neg e, if_neg (fun q => e q.2.2), if_neg q5, if_neg (fun q => mB q.2 q2)]
def ChgsInv (l : List (List UInt8)) (at_ : Nat) (L : List Change) : Prop := ∃ k, (l.drop at_).length ≤ k ∧ (changesG k (l.drop at_)).map (L ++ ·) = changesG l.length l
theorem cinv_start (l : List (List UInt8)) : ChgsInv l 0 [] := ⟨l.length, by simp, by simp⟩
theorem cinv_end {l : List (List UInt8)} {i : Nat} {L : List Change} (h : ChgsInv l i L) (hi : l.length ≤ i) : changesG l.length l = some L := by
  obtain ⟨k, _, h⟩ := h
  rw [List.drop_of_length_le hi, changesG] at h
  rw [← h]; simp
theorem cinv_one {l : List (List UInt8)} {i : Nat} {L : List Change} (h : ChgsInv l i L) (hi : i + 1 = l.length) : changesG l.length l = none := by
  obtain ⟨k, hk, h⟩ := h
  have hx : (l.drop i).length = 1 := by rw [List.length_drop]; omega
  obtain ⟨x, hx⟩ := List.length_eq_one_iff.1 hx
  rw [hx] at h hk
  obtain ⟨k, rfl⟩ : ∃ j, k = j + 1 := ⟨k - 1, by simp at hk; omega⟩
  rw [← h, changesG]; rfl
theorem cinv_head {l : List (List UInt8)} {i : Nat} {L : List Change} (h : ChgsInv l i L) {a b : List UInt8} {r : List (List UInt8)} (hd : l.drop i = a :: b :: r) (hh : headedL a b = none) : changesG l.length l = none := by
  obtain ⟨k, hk, h⟩ := h
  rw [hd] at h hk
  obtain ⟨k, rfl⟩ : ∃ j, k = j + 1 := ⟨k - 1, by simp at hk; omega⟩
  rw [← h, changesG, hh]; rfl
theorem cinv_take {l : List (List UInt8)} {i : Nat} {L : List Change} (h : ChgsInv l i L) {a b : List UInt8} {r : List (List UInt8)} (hd : l.drop i = a :: b :: r) {w : Int} {p : List UInt8} (hh : headedL a b = some (w, p)) (ht : takeU r [] 0 0 = none) : changesG l.length l = none := by
  obtain ⟨k, hk, h⟩ := h
  rw [hd] at h hk
  obtain ⟨k, rfl⟩ : ∃ j, k = j + 1 := ⟨k - 1, by simp at hk; omega⟩
  rw [← h, changesG, hh]
  simp only
  rw [ht]; rfl
theorem cinv_step {l : List (List UInt8)} {i j : Nat} {L : List Change} (h : ChgsInv l i L) {a b : List UInt8} {r : List (List UInt8)} (hd : l.drop i = a :: b :: r) {w : Int} {p : List UInt8} (hh : headedL a b = some (w, p)) {hs : List Hunk} (ht : takeU r [] 0 0 = some (hs, l.drop j)) (hj : i + 2 ≤ j) : ChgsInv l j (L ++ [⟨w, toB p, hs⟩]) := by
  obtain ⟨k, hk, h⟩ := h
  have hl : (l.drop i).length = r.length + 2 := by rw [hd]; rfl
  rw [hd] at h hk
  obtain ⟨k, rfl⟩ : ∃ j, k = j + 1 := ⟨k - 1, by simp at hk; omega⟩
  refine ⟨k, ?_, ?_⟩
  · rw [List.length_drop] at hl ⊢
    simp at hk
    omega
  · rw [← h, changesG, hh]
    simp only
    rw [ht]
    simp only
    cases changesG k (l.drop j) with
    | none => rfl
    | some q => simp
theorem parseG_none {s : List UInt8} (h : changesG (parts 10 s).dropLast.length (parts 10 s).dropLast = none) : parseG s = ([], 5) := by
  unfold parseG
  by_cases hl : 400000 < s.length
  · rw [if_pos hl]
  · rw [if_neg hl, h]
theorem parseG_some {s : List UInt8} {p : List Change} (hl : s.length ≤ 400000) (h : changesG (parts 10 s).dropLast.length (parts 10 s).dropLast = some p) (hx : (parts 10 s).getLast? = some []) : parseG s = if (patchFault p).2 ≠ 0 then ([], (patchFault p).2) else (p, 0) := by
  unfold parseG
  rw [if_neg (by omega), h]
  simp only
  rw [if_neg (by simpa using hx)]
theorem parseG_last {s : List UInt8} (hx : (parts 10 s).getLast? ≠ some []) : parseG s = ([], 5) := by
  unfold parseG
  by_cases hl : 400000 < s.length
  · rw [if_pos hl]
  · rw [if_neg hl]
    cases changesG (parts 10 s).dropLast.length (parts 10 s).dropLast with
    | none => rfl
    | some p => simp only; rw [if_pos hx]
end Go.Proofs.YtjiaidchcldocaaGreatDoor
namespace Go.Proofs.YtjiaidchcldocaaGreatDoor
open Go.RowKit

theorem headed_tests (a b : List UInt8) : ∃ (p1 p2 p3 p4 : Bool) (a1 b1 f t : List UInt8), Lib.hasPrefix a mmL = p1 ∧ Lib.trimPrefix a mmL = a1 ∧ Lib.hasPrefix b ppL = p2 ∧ Lib.trimPrefix b ppL = b1 ∧
    Lib.hasPrefix a1 [97, 47] = p3 ∧ Lib.trimPrefix a1 [97, 47] = f ∧ Lib.hasPrefix b1 [98, 47] = p4 ∧ Lib.trimPrefix b1 [98, 47] = t ∧
    (p3 = true → a1 ≠ noneL) ∧ (p4 = true → b1 ≠ noneL) ∧ f.length ≤ a.length ∧ t.length ≤ b.length ∧
    headedL a b = if p1 = false ∨ p2 = false then none else if p3 = true ∧ p4 = true ∧ f = t then some (1, f) else if a1 = noneL ∧ p4 = true then some (2, t) else if p3 = true ∧ b1 = noneL then some (3, f) else none := by
  have tl : ∀ x p : List UInt8, (Lib.trimPrefix x p).length ≤ x.length := fun x p => by
    unfold Lib.trimPrefix; split
    · rw [List.length_drop]; omega
    · exact Nat.le_refl _
  have hn : ∀ (x : List UInt8), Lib.hasPrefix x [97, 47] = true → x ≠ noneL := fun x h e => by rw [e] at h; exact absurd h (by decide)
  have hm : ∀ (x : List UInt8), Lib.hasPrefix x [98, 47] = true → x ≠ noneL := fun x h e => by rw [e] at h; exact absurd h (by decide)
  refine ⟨_, _, _, _, _, _, _, _, rfl, rfl, rfl, rfl, rfl, rfl, rfl, rfl, hn _, hm _, Nat.le_trans (tl _ _) (tl _ _), Nat.le_trans (tl _ _) (tl _ _), ?_⟩
  unfold headedL
  rcases lib_pre a mmL with ⟨h1, h2, h3⟩ | ⟨x, h1, h2, h3⟩
  · rw [h1, h2, if_pos (.inl rfl)]
  · rcases lib_pre b ppL with ⟨g1, g2, g3⟩ | ⟨y, g1, g2, g3⟩
    · rw [h1, g1, g2, if_pos (.inr rfl)]
    · rw [h1, h2, h3, g1, g2, g3, if_neg (by simp)]
      simp only
      unfold headedR
      rcases lib_pre x [97, 47] with ⟨k1, k2, k3⟩ | ⟨f, k1, k2, k3⟩
      · rcases lib_pre y [98, 47] with ⟨j1, j2, j3⟩ | ⟨t, j1, j2, j3⟩
        · rw [k1, j1, k2, j2]; simp
        · rw [k1, j1, k2, j2, j3]; simp
      · have q := hn x k2
        rcases lib_pre y [98, 47] with ⟨j1, j2, j3⟩ | ⟨t, j1, j2, j3⟩
        · rw [k1, j1, k2, j2, k3]; simp
        · have q2 := hm y j2
          rw [k1, j1, k2, j2, k3, j3]; simp [q, q2]
def HeadPost (a b : List UInt8) (w : World) (e : Ending) (w' : World) : Prop :=
  Chg Never w w' ∧ match headedL a b with
  | none => e = .returned (.tuple #[.agg #[.int .i64 0, .string ⟨#[]⟩, .slice none 0 0], .bool false])
  | some (k, p) => e = .returned (.tuple #[.agg #[.int .i64 k, .string (toB p), .slice none 0 0], .bool true])
theorem headPost_no {a b : List UInt8} {w w' : World} {e : Ending} (h : headedL a b = none) (hc : Chg Never w w') (he : e = .returned (.tuple #[.agg #[.int .i64 0, .string ⟨#[]⟩, .slice none 0 0], .bool false])) : HeadPost a b w e w' := ⟨hc, by rw [h]; exact he⟩
theorem headPost_yes {a b p : List UInt8} {k : Int} {w w' : World} {e : Ending} (h : headedL a b = some (k, p)) (hc : Chg Never w w') (he : e = .returned (.tuple #[.agg #[.int .i64 k, .string (toB p), .slice none 0 0], .bool true])) : HeadPost a b w e w' := ⟨hc, by rw [h]; exact he⟩
theorem str_eq_iff (x y : List UInt8) : ((toB x).toList == (toB y).toList) = decide (x = y) := by
  rw [Lib.toList_data, Lib.toList_data, toB_data, toB_data]
  by_cases h : x = y <;> simp [h]
theorem str_eq_lit (x y : List UInt8) : ((toB x).toList == y) = decide (x = y) := by
  rw [Lib.toList_data, toB_data]
  by_cases h : x = y <;> simp [h]

set_option maxHeartbeats 2000000 in
set_option maxRecDepth 100000 in
theorem headed_any (a b : ByteArray) (w : World) (_ha : a.size ≤ 1000000000) (_hb : b.size ≤ 1000000000) :
    Calls Tryz.prog 119 #[.string a, .string b] w (HeadPost a.data.toList b.data.toList w) := by
  obtain ⟨p1, p2, p3, p4, a1, b1', f, t, e1, e2, e3, e4, e5, e6, e7, e8, q1, q2, -, -, hh⟩ := headed_tests a.data.toList b.data.toList
  have HH := Lib.hid hh
  have E1 := Lib.hid e1
  have E2 := Lib.hid e2
  have E3 := Lib.hid e3
  have E4 := Lib.hid e4
  have E5 := Lib.hid e5
  have E6 := Lib.hid e6
  have E7 := Lib.hid e7
  have E8 := Lib.hid e8
  have hA0 : Chg Never w (w.alloc (.cells #[.int .i64 0, .string ⟨#[]⟩, .slice none 0 0] 85)) := (Chg.refl Never w).alloc _
  have hB0 := Blk3.new w 85 (.int .i64 0) (.string ⟨#[]⟩) (.slice none 0 0)
  clear e1 e2 e3 e4 e5 e6 e7 e8 hh
  go_enter Tryz.func119, Tryz.ntmps119
  go_wp2_with fail
  obtain ⟨w0, hw0⟩ : ∃ w0, w.alloc (.cells #[.int .i64 0, .string ⟨#[]⟩, .slice none 0 0] 85) = w0 := ⟨_, rfl⟩
  obtain ⟨wb, hwbe⟩ : ∃ wb, w.heap.size = wb := ⟨_, rfl⟩
  have hwb : w.heap.size ≤ wb := Nat.le_of_eq hwbe
  rw [hw0] at hA0 hB0 ⊢
  rw [hwbe] at hB0 ⊢
  clear hw0 hwbe
  refine (Tryz.strings_CutPrefix a (toB mmL) _).mono ?_
  rintro e w1 ⟨rfl, rfl⟩
  rename World => w0
  rw [toB_data, E1.out, E2.out, show (⟨a1.toArray⟩ : ByteArray) = toB a1 from rfl]
  go_wp2_with fail
  refine (Tryz.strings_CutPrefix b (toB ppL) _).mono ?_
  rintro e w1 ⟨rfl, rfl⟩
  rename World => w0
  rw [toB_data, E3.out, E4.out, show (⟨b1'.toArray⟩ : ByteArray) = toB b1' from rfl]
  go_wp2_with fail
  refine (Tryz.strings_CutPrefix (toB a1) (toB [97, 47]) _).mono ?_
  rintro e w1 ⟨rfl, rfl⟩
  rename World => w0
  rw [toB_data, toB_data, E5.out, E6.out, show (⟨f.toArray⟩ : ByteArray) = toB f from rfl]
  go_wp2_with fail
  refine (Tryz.strings_CutPrefix (toB b1') (toB [98, 47]) _).mono ?_
  rintro e w1 ⟨rfl, rfl⟩
  rename World => w0
  rw [toB_data, toB_data, E7.out, E8.out, show (⟨t.toArray⟩ : ByteArray) = toB t from rfl]
  have hA := hA0
  have hB := hB0
  obtain ⟨b0, b1, b2⟩ := hB.cell
  have f0 := hB.free 0
  have f1 := hB.free 1
  have f2 := hB.free 2
  have S0 := cell_put_eq b0
  have S1 := cell_put_eq b1
  have S2 := cell_put_eq b2
  clear hA0 hB0 E1 E2 E3 E4 E5 E6 E7 E8
  have eft := str_eq_iff f t
  have ean : ((toB a1).toList == [47, 100, 101, 118, 47, 110, 117, 108, 108]) = decide (a1 = noneL) := str_eq_lit a1 noneL
  have ebn : ((toB b1').toList == [47, 100, 101, 118, 47, 110, 117, 108, 108]) = decide (b1' = noneL) := str_eq_lit b1' noneL
  cases p1 with
  | false =>
    clear eft ean ebn q1 q2
    have hr : Hid (headedL a.data.toList b.data.toList = none) := by
      rw [Hid, HH.out]
      rw [if_pos (.inl rfl)]
    clear HH
    go_wp2_with fail
    refine bodyPost_ret (v := .tuple #[.agg #[.int .i64 0, .string ⟨#[]⟩, .slice none 0 0], .bool false]) (by simp [results, Tryz.results119, go_sem, b0, b1, b2]) rfl ?_
    exact headPost_no hr.out hA rfl
  | true =>
    cases p2 with
    | false =>
      clear eft ean ebn q1 q2
      have hr : Hid (headedL a.data.toList b.data.toList = none) := by
        rw [Hid, HH.out]
        rw [if_pos (.inr rfl)]
      clear HH
      go_wp2_with fail
      refine bodyPost_ret (v := .tuple #[.agg #[.int .i64 0, .string ⟨#[]⟩, .slice none 0 0], .bool false]) (by simp [results, Tryz.results119, go_sem, b0, b1, b2]) rfl ?_
      exact headPost_no hr.out hA rfl
    | true =>
      have HH : Hid (headedL a.data.toList b.data.toList = if p3 = true ∧ p4 = true ∧ f = t then some (1, f) else if a1 = noneL ∧ p4 = true then some (2, t) else if p3 = true ∧ b1' = noneL then some (3, f) else none) := by
        have := HH.out
        rw [if_neg (by simp)] at this
        exact this
      cases p3 with
      | true =>
        rw [decide_eq_false (q1 rfl)] at ean
        have nA := Lib.hid (q1 rfl)
        cases p4 with
        | true =>
          rw [decide_eq_false (q2 rfl)] at ebn
          have nB := Lib.hid (q2 rfl)
          by_cases h : f = t
          · rw [decide_eq_true h] at eft
            have HFT := Lib.hid h
            clear q1 q2 h
            have hr : Hid (headedL a.data.toList b.data.toList = some (1, f)) := by
              rw [Hid, HH.out]
              rw [if_pos ⟨rfl, rfl, HFT.out⟩]
            have hBF := ((hB.set0 (.int .i64 1)).set1 (.string (toB f))).set2 (.slice none 0 0)
            have hCF := ((hA.setCell (p := ⟨wb, 0, none⟩) (.inl hwb) (.int .i64 1)).setCell (p := ⟨wb, 1, none⟩) (.inl hwb) (.string (toB f))).setCell (p := ⟨wb, 2, none⟩) (.inl hwb) (.slice none 0 0)
            clear HH S0 S1 S2
            go_wp2_with fail
            obtain ⟨d0, d1, d2⟩ := hBF.cell
            refine bodyPost_ret (v := .tuple #[.agg #[.int .i64 1, .string (toB f), .slice none 0 0], .bool true]) (by simp [results, Tryz.results119, go_sem, d0, d1, d2]) rfl ?_
            exact headPost_yes hr.out hCF rfl
          · rw [decide_eq_false h] at eft
            have HFT := Lib.hid h
            clear q1 q2 h
            have hr : Hid (headedL a.data.toList b.data.toList = none) := by
              rw [Hid, HH.out]
              rw [if_neg (fun q => HFT.out q.2.2), if_neg (fun q => nA.out q.1), if_neg (fun q => nB.out q.2)]
            clear HH
            go_wp2_with fail
            refine bodyPost_ret (v := .tuple #[.agg #[.int .i64 0, .string ⟨#[]⟩, .slice none 0 0], .bool false]) (by simp [results, Tryz.results119, go_sem, b0, b1, b2]) rfl ?_
            exact headPost_no hr.out hA rfl
        | false =>
          by_cases h : b1' = noneL
          · rw [decide_eq_true h] at ebn
            have HFT := Lib.hid h
            clear q1 q2 h
            have hr : Hid (headedL a.data.toList b.data.toList = some (3, f)) := by
              rw [Hid, HH.out]
              rw [if_neg (by simp), if_neg (by simp), if_pos ⟨rfl, HFT.out⟩]
            have hBF := ((hB.set0 (.int .i64 3)).set1 (.string (toB f))).set2 (.slice none 0 0)
            have hCF := ((hA.setCell (p := ⟨wb, 0, none⟩) (.inl hwb) (.int .i64 3)).setCell (p := ⟨wb, 1, none⟩) (.inl hwb) (.string (toB f))).setCell (p := ⟨wb, 2, none⟩) (.inl hwb) (.slice none 0 0)
            clear HH S0 S1 S2
            go_wp2_with fail
            obtain ⟨d0, d1, d2⟩ := hBF.cell
            refine bodyPost_ret (v := .tuple #[.agg #[.int .i64 3, .string (toB f), .slice none 0 0], .bool true]) (by simp [results, Tryz.results119, go_sem, d0, d1, d2]) rfl ?_
            exact headPost_yes hr.out hCF rfl
          · rw [decide_eq_false h] at ebn
            have HFT := Lib.hid h
            clear q1 q2 h
            have hr : Hid (headedL a.data.toList b.data.toList = none) := by
              rw [Hid, HH.out]
              rw [if_neg (by simp), if_neg (by simp), if_neg (fun q => HFT.out q.2)]
            clear HH
            go_wp2_with fail
            refine bodyPost_ret (v := .tuple #[.agg #[.int .i64 0, .string ⟨#[]⟩, .slice none 0 0], .bool false]) (by simp [results, Tryz.results119, go_sem, b0, b1, b2]) rfl ?_
            exact headPost_no hr.out hA rfl
      | false =>
        by_cases h : a1 = noneL
        · rw [decide_eq_true h] at ean
          have HFT := Lib.hid h
          clear q1 q2 h
          cases p4 with
          | true =>
            have hr : Hid (headedL a.data.toList b.data.toList = some (2, t)) := by
              rw [Hid, HH.out]
              rw [if_neg (by simp), if_pos ⟨HFT.out, rfl⟩]
            have hBF := ((hB.set0 (.int .i64 2)).set1 (.string (toB t))).set2 (.slice none 0 0)
            have hCF := ((hA.setCell (p := ⟨wb, 0, none⟩) (.inl hwb) (.int .i64 2)).setCell (p := ⟨wb, 1, none⟩) (.inl hwb) (.string (toB t))).setCell (p := ⟨wb, 2, none⟩) (.inl hwb) (.slice none 0 0)
            clear HH S0 S1 S2
            go_wp2_with fail
            obtain ⟨d0, d1, d2⟩ := hBF.cell
            refine bodyPost_ret (v := .tuple #[.agg #[.int .i64 2, .string (toB t), .slice none 0 0], .bool true]) (by simp [results, Tryz.results119, go_sem, d0, d1, d2]) rfl ?_
            exact headPost_yes hr.out hCF rfl
          | false =>
            have hr : Hid (headedL a.data.toList b.data.toList = none) := by
              rw [Hid, HH.out]
              rw [if_neg (by simp), if_neg (by simp), if_neg (by simp)]
            clear HH
            go_wp2_with fail
            refine bodyPost_ret (v := .tuple #[.agg #[.int .i64 0, .string ⟨#[]⟩, .slice none 0 0], .bool false]) (by simp [results, Tryz.results119, go_sem, b0, b1, b2]) rfl ?_
            exact headPost_no hr.out hA rfl
        · rw [decide_eq_false h] at ean
          have HFT := Lib.hid h
          clear q1 q2 h
          cases p4 with
          | true =>
            have hr : Hid (headedL a.data.toList b.data.toList = none) := by
              rw [Hid, HH.out]
              rw [if_neg (by simp), if_neg (fun q => HFT.out q.1), if_neg (by simp)]
            clear HH
            go_wp2_with fail
            refine bodyPost_ret (v := .tuple #[.agg #[.int .i64 0, .string ⟨#[]⟩, .slice none 0 0], .bool false]) (by simp [results, Tryz.results119, go_sem, b0, b1, b2]) rfl ?_
            exact headPost_no hr.out hA rfl
          | false =>
            have hr : Hid (headedL a.data.toList b.data.toList = none) := by
              rw [Hid, HH.out]
              rw [if_neg (by simp), if_neg (by simp), if_neg (by simp)]
            clear HH
            go_wp2_with fail
            refine bodyPost_ret (v := .tuple #[.agg #[.int .i64 0, .string ⟨#[]⟩, .slice none 0 0], .bool false]) (by simp [results, Tryz.results119, go_sem, b0, b1, b2]) rfl ?_
            exact headPost_no hr.out hA rfl
end Go.Proofs.YtjiaidchcldocaaGreatDoor
namespace Go.Proofs.YtjiaidchcldocaaGreatDoor

theorem spanOf_lt {s : List UInt8} {a : Int} {x : Nat} (h : spanOf s = some (a, x)) : x < 1000 := by
  unfold spanOf at h
  cases hc : cutSub [44] s with
  | none => rw [hc] at h; cases h
  | some p =>
    obtain ⟨u, v⟩ := p
    rw [hc] at h
    simp only at h
    cases hu : numOf u with
    | none => rw [hu] at h; cases h
    | some y =>
      cases hv : numOf v with
      | none => rw [hu, hv] at h; cases h
      | some z =>
        have := numOf_lt hv
        rw [hu, hv] at h
        simp only at h
        split at h
        · split at h
          · cases h
          · injection h with h; injection h with _ h; omega
        · injection h with h; injection h with _ h; omega
theorem headOf_lt {s : List UInt8} {a b : Int} {x y : Nat} (h : headOf s = some (a, x, b, y)) : x < 1000 ∧ y < 1000 := by
  unfold headOf at h
  cases h1 : dropPre atAt s with
  | none => rw [h1] at h; cases h
  | some r =>
    rw [h1] at h
    simp only at h
    cases h2 : dropSuf endAt r with
    | none => rw [h2] at h; cases h
    | some m =>
      rw [h2] at h
      simp only at h
      cases h3 : cutSub [32, 43] m with
      | none => rw [h3] at h; cases h
      | some p =>
        obtain ⟨u, v⟩ := p
        rw [h3] at h
        simp only at h
        cases h4 : spanOf u with
        | none => rw [h4] at h; cases h
        | some p =>
          obtain ⟨a', x'⟩ := p
          rw [h4] at h
          simp only at h
          cases h5 : spanOf v with
          | none => rw [h5] at h; cases h
          | some p =>
            obtain ⟨b', y'⟩ := p
            rw [h5] at h
            simp only [Option.some.injEq, Prod.mk.injEq] at h
            obtain ⟨-, rfl, -, rfl⟩ := h
            exact ⟨spanOf_lt h4, spanOf_lt h5⟩
theorem addMark_len : ∀ (hs : List Hunk) (m : Mark), (addMark hs m).length = hs.length
  | [], _ => rfl
  | [_], _ => rfl
  | h :: k :: r, m => by
    show (h :: addMark (k :: r) m).length = _
    rw [List.length_cons, addMark_len (k :: r) m]; rfl
theorem addMark_marks : ∀ (hs : List Hunk) (m : Mark) (j : Nat), (∀ h ∈ hs, h.marks.length ≤ j) → ∀ h ∈ addMark hs m, h.marks.length ≤ j + 1
  | [], _, _, _, _, hh => by cases hh
  | [h], m, j, hb, x, hx => by
    have := hb h (List.mem_cons_self ..)
    simp only [addMark, List.mem_cons, List.not_mem_nil, or_false] at hx
    subst hx
    simp only [List.length_append, List.length_cons, List.length_nil]
    omega
  | h :: k :: r, m, j, hb, x, hx => by
    rcases List.mem_cons.1 (show x ∈ h :: addMark (k :: r) m from hx) with rfl | hx
    · have := hb x (List.mem_cons_self ..); omega
    · exact addMark_marks (k :: r) m j (fun y hy => hb y (List.mem_cons_of_mem _ hy)) x hx
structure RdB (hs : List Hunk) (o n j : Nat) : Prop where
  ok : RdOk hs o n
  len : hs.length ≤ j
  marks : ∀ h ∈ hs, h.marks.length ≤ j
  on : o < 1000 ∧ n < 1000
theorem rdB_start : RdB [] 0 0 0 := ⟨rdOk_start, Nat.le_refl _, fun _ h => (by cases h), by decide, by decide⟩
theorem rdB_step {hs hs' : List Hunk} {o n o' n' j : Nat} {s : List UInt8} (h : RdB hs o n j) (hr : readLine hs o n s = some (hs', o', n')) : RdB hs' o' n' (j + 1) := by
  have hok := readLine_ok h.ok hr
  refine ⟨fun _ => hok, ?_, ?_, ?_⟩
  all_goals
    have hl := h.len
    have hm := h.marks
    have hon := h.on
    unfold readLine at hr
    by_cases q : 0 < o ∨ 0 < n
    · rw [if_pos q] at hr
      cases s with
      | nil => cases hr
      | cons c r =>
        simp only at hr
        split at hr
        · injection hr with hr; injection hr with h1 h2; injection h2 with h2 h3; subst h1; subst h2; subst h3
          first | (rw [addMark_len]; omega) | exact addMark_marks _ _ _ hm | (constructor <;> omega)
        · split at hr
          · injection hr with hr; injection hr with h1 h2; injection h2 with h2 h3; subst h1; subst h2; subst h3
            first | (rw [addMark_len]; omega) | exact addMark_marks _ _ _ hm | (constructor <;> omega)
          · split at hr
            · injection hr with hr; injection hr with h1 h2; injection h2 with h2 h3; subst h1; subst h2; subst h3
              first | (rw [addMark_len]; omega) | exact addMark_marks _ _ _ hm | (constructor <;> omega)
            · cases hr
    · rw [if_neg q] at hr
      cases hd : headOf s with
      | none => rw [hd] at hr; cases hr
      | some p =>
        obtain ⟨a, x, b, y⟩ := p
        have hxy := headOf_lt hd
        rw [hd] at hr
        simp only [Option.some.injEq, Prod.mk.injEq] at hr
        obtain ⟨rfl, rfl, rfl⟩ := hr
        first
          | (rw [List.length_append]; simp only [List.length_cons, List.length_nil]; omega)
          | exact hxy
          | (intro k hk
             rcases List.mem_append.1 hk with hk | hk
             · have := hm k hk; omega
             · simp only [List.mem_cons, List.not_mem_nil, or_false] at hk
               subst hk
               exact Nat.zero_le _)
structure TakeInv (R l : List (List UInt8)) (hs : List Hunk) (o n : Nat) : Prop where
  take : takeU l hs o n = takeU R [] 0 0
theorem tinv_start (R : List (List UInt8)) : TakeInv R R [] 0 0 := ⟨rfl⟩
theorem tinv_step {R l : List (List UInt8)} {hs hs' : List Hunk} {o n o' n' : Nat} {s : List UInt8} (h : TakeInv R (s :: l) hs o n) (hc : (0 < o ∨ 0 < n) ∨ hunkHead s = true) (hr : readLine hs o n s = some (hs', o', n')) : TakeInv R l hs' o' n' :=
  ⟨by rw [← h.take, take_cons hc hr]⟩
theorem tinv_bad {R l : List (List UInt8)} {hs : List Hunk} {o n : Nat} {s : List UInt8} (h : TakeInv R (s :: l) hs o n) (hc : (0 < o ∨ 0 < n) ∨ hunkHead s = true) (hr : readLine hs o n s = none) : takeU R [] 0 0 = none := by
  rw [← h.take, takeU, if_pos hc, hr]
theorem tinv_open {R : List (List UInt8)} {hs : List Hunk} {o n : Nat} (h : TakeInv R [] hs o n) (hc : 0 < o ∨ 0 < n) : takeU R [] 0 0 = none := by
  rw [← h.take, takeU, if_pos hc]
theorem tinv_end {R l : List (List UInt8)} {hs : List Hunk} {o n : Nat} (h : TakeInv R l hs o n) (hc : ¬ (0 < o ∨ 0 < n)) (hl : ∀ s r, l = s :: r → hunkHead s = false) : takeU R [] 0 0 = some (hs, l) := by
  rw [← h.take]
  cases l with
  | nil => rw [takeU, if_neg hc]
  | cons s r => rw [takeU, if_neg (fun q => q.elim hc (fun q => by rw [hl s r rfl] at q; cases q))]
end Go.Proofs.YtjiaidchcldocaaGreatDoor
namespace Go.Proofs.YtjiaidchcldocaaGreatDoor
open Go.RowKit

theorem slice_g {P : Program} {t : TypeId} (ht : P.underlying t = some (.slice (P.elem t))) {α : Type} [Dat α] (hsz : ∀ w, (sizeOf (P.elem t)).run P w = .ok (Dat.n α) w) {w0 : World} {O : Nat → Prop} {a : Option Addr} {cap : Nat} {l : List α} (h : Rdv w0 O (.slice a l.length cap) l) (i j : Nat) (hij : i ≤ j) (hj : j ≤ l.length) :
    ∃ b, (∀ (x y : Int) (w : World), x = i → y = j → (Instr.slice t (.slice a l.length cap) (some (.int .i64 x)) (some (.int .i64 y)) none).run P w = .ok (.slice b (j - i) (cap - i)) w) ∧
      (∀ (x : Int) (w : World), x = i → j = l.length → (Instr.slice t (.slice a l.length cap) (some (.int .i64 x)) none none).run P w = .ok (.slice b (j - i) (cap - i)) w) ∧
      (∀ (y : Int) (w : World), i = 0 → y = j → (Instr.slice t (.slice a l.length cap) none (some (.int .i64 y)) none).run P w = .ok (.slice b (j - i) (cap - i)) w) ∧
      Rdv w0 O (.slice b (j - i) (cap - i)) ((l.drop i).take (j - i)) := by
  have hr := rdv_sliced h i j hij hj
  obtain ⟨b, hb⟩ := sliced_isSlice a i j cap (Dat.n α)
  obtain ⟨a', cap', e, h1, h2, h3⟩ := rdv_slice h
  simp only [Value.slice.injEq, true_and] at e
  obtain ⟨rfl, rfl⟩ := e
  refine ⟨b, ?_, ?_, ?_, hb ▸ hr⟩
  · rintro x y w rfl rfl
    rw [run_slice_lh w t a l.length cap ht .i64 .i64 _ _ (by omega) (by omega) (by omega), hsz]
    simp only [Result.andThen_ok, Int.toNat_natCast]
    rw [hb]
  · rintro x w rfl rfl
    rw [run_slice_l w t a l.length cap ht .i64 _ (by omega) (by omega), hsz]
    simp only [Result.andThen_ok, Int.toNat_natCast]
    rw [hb]
  · rintro y w rfl rfl
    rw [run_slice_h w t a l.length cap ht .i64 _ (by omega) (by omega), hsz]
    simp only [Result.andThen_ok, Int.toNat_natCast]
    rw [hb]
end Go.Proofs.YtjiaidchcldocaaGreatDoor
