/-
  THE WALKS of the document's Stands, replaced, StrictOf.
-/
import Derived.Test.YtlflhehlbnbhgaaDoorRefD
import Derived.Test.YtlflhehlbnbhgaaDoorLooseA
import Derived.Test.YtlflhehlbnbhgaaDoorSpecBack
import Derived.Test.YtlflhehlbnbhgaaDoorOwn2
namespace Go.Proofs.YtlflhehlbnbhgaaDoor
open Go.RowKit

theorem standsB_iff {a l : List ByteArray} {n : Nat} (h : n + l.length ≤ a.length) : standsB a n l = decide ((a.drop n).take l.length = l) := by
  unfold standsB
  have e1 : decide ((0 : Int) ≤ n) = true := by simp
  have e2 : decide ((n : Int) + l.length ≤ a.length) = true := by simp; omega
  rw [e1, e2]; simp
theorem stands_all {a l : List ByteArray} {n : Nat} (h : n + l.length ≤ a.length) (hf : ∀ k, k < l.length → a[n + k]? = l[k]?) : standsB a n l = true := by
  rw [standsB_iff h, decide_eq_true_eq]
  apply List.ext_getElem?
  intro k
  rw [List.getElem?_take]
  by_cases hk : k < l.length
  · rw [if_pos hk, List.getElem?_drop, hf k hk]
  · rw [if_neg hk, List.getElem?_eq_none (by omega)]
theorem stands_not {a l : List ByteArray} {n k : Nat} (h : n + l.length ≤ a.length) {x y : ByteArray} (hx : a[n + k]? = some x) (hy : l[k]? = some y) (hne : x ≠ y) : standsB a n l = false := by
  rw [standsB_iff h, decide_eq_false_iff_not]
  intro e
  have := congrArg (fun q => q[k]?) e
  simp only [List.getElem?_take, List.getElem?_drop] at this
  rw [if_pos (List.getElem?_eq_some_iff.1 hy).1, hx, hy] at this
  injection this with this
  exact hne this

set_option maxHeartbeats 1000000 in
set_option maxRecDepth 100000 in
theorem refStands_any (a l : List ByteArray) (at_ : Int) (v u : Value) (w : World) (ha : Rdv w Never v a) (hl : Rdv w Never u l) (h0 : -1000000 ≤ at_) (h1 : at_ ≤ 1000000) (hla : a.length ≤ 1000000) (hll : l.length ≤ 1000000) :
    Calls Tryd.prog 47 #[v, .int .i64 at_, u] w fun e w' => e = .returned (.bool (standsB a at_ l)) ∧ Chg Never w w' := by
  obtain ⟨b, cap, rfl, _, hcap, ha3⟩ := rdv_slice ha
  obtain ⟨c, cap', rfl, _, hcap', hl3⟩ := rdv_slice hl
  unfold maxLen at hcap hcap'
  by_cases c1 : at_ < 0
  · have E : standsB a at_ l = false := by unfold standsB; simp; omega
    rw [E]
    go_enter Tryd.func47, Tryd.ntmps47
    go_wp2_with fail
    go_ret
    exact ⟨rfl, Chg.refl _ _⟩
  · obtain ⟨n, rfl⟩ := Int.eq_ofNat_of_zero_le (show 0 ≤ at_ by omega)
    by_cases c2 : a.length < n + l.length
    · have E : standsB a n l = false := by unfold standsB; simp; omega
      rw [E]
      have t1 : decide ((a.length : Int) - l.length < n) = true := by simp; omega
      go_enter Tryd.func47, Tryd.ntmps47
      go_wp2_with fail
      go_ret
      exact ⟨rfl, Chg.refl _ _⟩
    · have hle : n + l.length ≤ a.length := by omega
      have t1 : decide ((a.length : Int) - l.length < n) = false := by simp; omega
      clear c2
      go_enter Tryd.func47, Tryd.ntmps47
      go_wp2_with fail
      go_loopw [7] (fun i wr => ∃ k : Nat, k ≤ l.length ∧ i = .int .i64 k ∧ Chg Never w wr ∧ Hid (∀ q, q < k → a[n + q]? = l[q]?)) (fun i _ => l.length - (intOf i).toNat)
      case atStart => exact ⟨0, Nat.zero_le _, rfl, Chg.refl _ _, fun q h => absurd h (Nat.not_lt_zero q)⟩
      case round =>
        obtain ⟨k, hk, rfl, hc, hf⟩ := hrel
        by_cases hlt : k < l.length
        · obtain ⟨y, hy⟩ : ∃ y, l[k]? = some y := ⟨l[k], by simp [hlt]⟩
          obtain ⟨x, hx⟩ : ∃ x, a[n + k]? = some x := ⟨a[n + k]'(by omega), by simp [show n + k < a.length by omega]⟩
          obtain ⟨b1, o1, rfl, _, _, hcx, hxs⟩ := elems_str ha3 hx
          obtain ⟨b2, o2, rfl, _, _, hcy, hys⟩ := elems_str hl3 hy
          have hcx := hc.cellNever hcx
          have hcy := hc.cellNever hcy
          have HX := Lib.hid hx
          have HY := Lib.hid hy
          have e1 : IntKind.i64.wrap ((n : Int) + k) = (n : Int) + k := IntWalk.i64_in _ (by omega)
          have e2 : (0 : Int) ≤ (n : Int) + k := by omega
          have e3 : (n : Int) + k < a.length := by omega
          have e4 : ((n : Int) + k).toNat = n + k := by omega
          have e5 : (k : Int) < l.length := by omega
          clear ha3 hl3 ha hl hx hy
          by_cases hxy : x = y
          · subst hxy
            go_wp2_with fail
            go_quiet (fail)
            go_wp2_with fail
            clear e1 e2 e3 e4 e5
            go_roundw
            case rel => exact ⟨k + 1, by omega, by go_num, hc.drewN _, fun q hq => by
              by_cases e : q = k
              · subst e; rw [HX.out, HY.out]
              · exact hf.out q (by omega)⟩
            case measure => simp [intOf] <;> omega
          · have hne := str_beq_false hxy
            have HN := Lib.hid (stands_not hle HX.out HY.out hxy)
            go_wp2_with fail
            go_quiet (fail)
            go_wp2_with fail
            go_ret
            exact ⟨by rw [HN.out]; rfl, hc.drewN _⟩
        · have HN := Lib.hid (stands_all hle (fun q hq => hf.out q (by omega)))
          go_wp2_with fail
          go_ret
          exact ⟨by rw [HN.out]; rfl, hc⟩

set_option maxHeartbeats 1000000 in
set_option maxRecDepth 100000 in
theorem replaced_any (a l : List ByteArray) (at_ n : Nat) (v u : Value) (w : World) (ha : Rdv w Never v a) (hl : Rdv w Never u l) (h0 : at_ + n ≤ a.length) (hla : a.length ≤ 1000000) (hll : l.length ≤ 1000000) :
    Calls Tryd.prog 48 #[v, .int .i64 at_, .int .i64 n, u] w fun e w' => ∃ r, e = .returned r ∧ Chg Never w w' ∧ Rdv w' (Old w.heap.size) r (repl a at_ n l) := by
  obtain ⟨b, cap, rfl, _, hcap, _⟩ := rdv_slice ha
  obtain ⟨c, cap', rfl, _, _, _⟩ := rdv_slice hl
  unfold maxLen at hcap
  obtain ⟨sb1, u0, u1, hrunH, hsub1⟩ := slice_gen (P := Tryd.prog) (t := 23) (by kernel_rfl) size_str ha 0 at_ (Nat.zero_le _) (by omega)
  have hrunH := fun (wx : World) => hrunH at_ wx rfl rfl
  clear u0 u1
  rw [Nat.sub_zero, Nat.sub_zero] at hrunH hsub1
  rw [List.drop_zero] at hsub1
  obtain ⟨sb2, u0, hrunL, u1, hsub2⟩ := slice_gen (P := Tryd.prog) (t := 23) (by kernel_rfl) size_str ha (at_ + n) a.length h0 (Nat.le_refl _)
  have hrunL := fun (wx : World) => hrunL ((at_ : Int) + n) wx (by push_cast; rfl) rfl
  clear u0 u1
  rw [List.take_of_length_le (by rw [List.length_drop]; omega)] at hsub2
  have hl1 : (a.take at_).length = at_ := by rw [List.length_take]; omega
  have hl2 : (a.drop (at_ + n)).length = a.length - (at_ + n) := List.length_drop
  have hle1 : ([] : List ByteArray).length + (a.take at_).length ≤ 1000000000 := by rw [hl1]; simp; omega
  have hle2 : ([] ++ a.take at_).length + l.length ≤ 1000000000 := by rw [List.nil_append, hl1]; omega
  have hle3 : ([] ++ a.take at_ ++ l).length + (a.drop (at_ + n)).length ≤ 1000000000 := by rw [List.nil_append, List.length_append, hl1, hl2]; omega
  go_enter Tryd.func48, Tryd.ntmps48
  go_wp2_with (first
    | (at_builtin; refine wpList_many (by rfl) _ _ 23 (by rfl) elemOk_str (O := Old w.heap.size) (l := []) (m := a.take at_) (by rfl) (by rfl) (own_nil _ _ _) hsub1 (rd_str_any _ _ _) (fun _ h => h) hle1 ?_; intro v1 w1 hw1 hd1; obtain ⟨s1, n1, c1, rfl⟩ := own_isSlice hw1; have hd1' : Chg Never w w1 := hd1.mono (fun q _ h => by cases h); have hl1' := hl.never hd1'; have hs1' := hsub2.never hd1'; have hol := old_lt hd1'; clear hd1 hsub1)
    | (at_builtin; refine wpList_many (by rfl) _ _ 23 (by rfl) elemOk_str (O := Old w.heap.size) (l := [] ++ a.take at_) (m := l) (by rfl) (by rfl) hw1 hl1' (rd_str_any _ _ _) hol hle2 ?_; intro v2 w2 hw2 hd2; obtain ⟨s2, n2, c2, rfl⟩ := own_isSlice hw2; have hd2' := own_step hd1' hw1 hd2; have hs2' := hsub2.never hd2'; have hol2 := old_lt hd2'; clear hd2 hl1' hs1' hol hw1 hd1')
    | (at_builtin; refine wpList_many (by rfl) _ _ 23 (by rfl) elemOk_str (O := Old w.heap.size) (l := [] ++ a.take at_ ++ l) (m := a.drop (at_ + n)) (by rfl) (by rfl) hw2 hs2' (rd_str_any _ _ _) hol2 hle3 ?_; intro v3 w3 hw3 hd3; obtain ⟨s3, n3, c3, rfl⟩ := own_isSlice hw3; have hd3' := own_step hd2' hw2 hd3; clear hd3 hs2' hol2 hw2 hd2'))
  go_ret
  exact ⟨_, rfl, hd3', hw3.rdv⟩
end Go.Proofs.YtlflhehlbnbhgaaDoor
