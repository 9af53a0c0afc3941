/-
  PARTS: BOXES, in plain Lean (chapter 12): one mail behind the other.; PARTS BETWEEN CUTS, in plain Lean: the library's splits are those of the plain laws.; THE WALKS of unified.number and read.; A SLICE OF HUNKS THAT THE CALL ITSELF BUILDS, OF WHICH THE LAST ONE STILL GROWS ('OwnLast'): pushed onto, its last one's marks pushed onto, closed. No program in sight.; A READER OF HUNKS IN MEMORY ('RdrAt'): a box of three cells: the hunks that have been read (the last one still grows), how many marks it needs.; THE WALKS: the laws' Hunk, Hunks.; PIECES OF A SCRIPT, in plain Lean (chapter 3, H2): what Cut answers.; THE WALK of hunk.near.; PIECES OF A SCRIPT, plain laws: what Cut answers is pieces in order ('Pcs'), valid hunks, has all changes; turned; of a great context one piece; with more context no more pieces.; THE WALK of hunk.cut.
-/
import Derived.Test.YtnekhaacapdmfaaDoorPackGb3
import Derived.Lib.SplitLaws
import Derived.Test.YtnekhaacapdmfaaDoorPackGb1
import Derived.Lib.IndexMore
import Derived.WalkLawsBesides
import Derived.Test.YtnekhaacapdmfaaDoorPackGb2
import Derived.Deep.RegionLaw
import Derived.Deep.DrawnRows
namespace Go.Proofs.YtnekhaacapdmfaaDoor

def markW : List UInt8 := [70, 114, 111, 109, 32, 45, 32, 10]
def sepW : List UInt8 := 10 :: markW
def boxText (l : List Mail) : List UInt8 := l.flatMap fun m => markW ++ (mailText m ++ [10])
def splitAll : Nat → List UInt8 → List (List UInt8)
  | 0, s => [s]
  | k + 1, s => match cutSub sepW s with
    | none => [s]
    | some (a, b) => a :: splitAll k b
/-- no newline of a text has the mark behind it -/
def Clean (t : List UInt8) : Prop := ∀ u v r, t = u ++ 10 :: v → markW.isPrefixOf (v ++ 10 :: r) = false
theorem clean_tail {c : UInt8} {t : List UInt8} (h : Clean (c :: t)) : Clean t := fun u v r e => h (c :: u) v r (by rw [e]; rfl)
theorem cut_clean (b : List UInt8) : ∀ {t : List UInt8}, Clean t → cutSub sepW (t ++ sepW ++ b) = some (t, b)
  | [], _ => by
    rw [List.nil_append]
    show cutSub sepW (10 :: (markW ++ b)) = _
    rw [cutSub, if_pos (by rw [List.isPrefixOf_iff_prefix]; exact ⟨b, rfl⟩)]
    show some ([], (sepW ++ b).drop sepW.length) = _
    rw [List.drop_left]
  | c :: t, h => by
    rw [List.cons_append, List.cons_append, cutSub, if_neg, cut_clean b (clean_tail h)]
    · rfl
    · intro q
      unfold sepW at q
      rw [List.isPrefixOf, Bool.and_eq_true] at q
      obtain ⟨q1, q2⟩ := q
      have q1 : c = 10 := (eq_of_beq q1).symm
      subst q1
      have := h [] t (markW ++ b) rfl
      rw [show t ++ 10 :: (markW ++ b) = t ++ 10 :: markW ++ b by simp] at this
      rw [q2] at this; cases this
theorem cut_last : ∀ {t : List UInt8}, Clean t → cutSub sepW (t ++ [10]) = none
  | [], _ => rfl
  | c :: t, h => by
    rw [List.cons_append, cutSub, if_neg, cut_last (t := t) (clean_tail h)]
    · rfl
    · intro q
      unfold sepW at q
      rw [List.isPrefixOf, Bool.and_eq_true] at q
      obtain ⟨q1, q2⟩ := q
      have q1 : c = 10 := (eq_of_beq q1).symm
      subst q1
      rw [h [] t [] rfl] at q2; cases q2
theorem clean_line {t : List UInt8} (ht : ∀ r, markW.isPrefixOf (t ++ 10 :: r) = false) (hc : Clean t) : ∀ {a : List UInt8}, (∀ c ∈ a, c ≠ 10) → Clean (a ++ [10] ++ t)
  | [], _, u, v, r, e => by
    cases u with
    | nil =>
      injection e with _ e
      rw [← e]; exact ht r
    | cons x u =>
      injection e with _ e
      exact hc u v r e
  | c :: a, h, u, v, r, e => by
    cases u with
    | nil =>
      injection e with e _
      exact absurd e (h c (List.mem_cons_self ..))
    | cons x u =>
      injection e with _ e
      exact clean_line ht hc (fun d hd => h d (List.mem_cons_of_mem _ hd)) u v r e
theorem mark_space (r : List UInt8) : ∀ (v : List UInt8), (∀ c ∈ v, c ≠ 32) → markW.isPrefixOf (v ++ 10 :: r) = false
  | [], _ => rfl
  | [a], _ => by simp [markW, List.isPrefixOf]
  | [a, b], _ => by simp [markW, List.isPrefixOf]
  | [a, b, c], _ => by simp [markW, List.isPrefixOf]
  | [a, b, c, d], _ => by simp [markW, List.isPrefixOf]
  | a :: b :: c :: d :: e :: v, h => by
    have he : e ≠ 32 := h e (by simp)
    have : (32 == e) = false := by simpa using fun q => he q.symm
    simp [markW, List.isPrefixOf, this]
theorem clean_space {t : List UInt8} (h : ∀ c ∈ t, c ≠ 32) : Clean t := fun u v r e => mark_space r v fun c hc => h c (by rw [e]; simp [hc])
theorem letter_sp : ∀ k, k < 64 → letterAt k ≠ 32 := by decide +kernel
theorem enc_sp : ∀ (k : Nat) (l : List UInt8) (n : Nat), l.length ≤ k → ∀ c ∈ encGo l n, c ≠ 32
  | _, [], n, _, c, hc => by rw [encGo] at hc; cases hc
  | 0, _ :: _, _, h, _, _ => by simp at h
  | k + 1, x :: r, n, h, c, hc => by
    rw [encGo] at hc
    rcases List.mem_append.1 hc with hc | hc
    · rcases List.mem_append.1 hc with hc | hc
      · unfold fourOf at hc
        obtain ⟨i, _, rfl⟩ := List.mem_map.1 hc
        split
        · decide
        · exact letter_sp _ (Nat.mod_lt _ (by decide))
      · split at hc
        · rw [List.mem_singleton.1 hc]; decide
        · cases hc
    · exact enc_sp k _ _ (by simp at h ⊢; omega) c hc
theorem mail_clean {m : Mail} (h : mailFault m = 0) : Clean (mailText m) := by
  unfold mailFault at h
  by_cases h1 : wordB m.sender.data.toList = false ∨ wordB m.subject.data.toList = false ∨ wordB m.ident.data.toList = false ∨ 60 ∈ m.ident.data.toList ∨ 62 ∈ m.ident.data.toList
  · rw [if_pos h1] at h; cases h
  · have w1 : wordB m.sender.data.toList = true := by
      cases e : wordB m.sender.data.toList with
      | true => rfl
      | false => exact absurd (.inl e) h1
    have w2 : wordB m.subject.data.toList = true := by
      cases e : wordB m.subject.data.toList with
      | true => rfl
      | false => exact absurd (.inr (.inl e)) h1
    have w3 : wordB m.ident.data.toList = true := by
      cases e : wordB m.ident.data.toList with
      | true => rfl
      | false => exact absurd (.inr (.inr (.inl e))) h1
    have join : ∀ {a b : List UInt8}, (∀ c ∈ a, c ≠ 10) → (∀ c ∈ b, c ≠ 10) → ∀ c ∈ a ++ b, c ≠ 10 := fun ha hb c hc => by
      rcases List.mem_append.1 hc with q | q
      · exact ha c q
      · exact hb c q
    have he : Clean (encL m.body) := clean_space (enc_sp _ _ _ (Nat.le_refl _))
    have h5 : Clean ([] ++ [10] ++ encL m.body) := clean_line (fun r => mark_space r _ (enc_sp _ _ _ (Nat.le_refl _))) he (by simp)
    have h4 : Clean (codW ++ [10] ++ ([] ++ [10] ++ encL m.body)) := clean_line (fun r => rfl) h5 (by decide)
    have h3 := clean_line (a := idW ++ (m.ident.data.toList ++ [62])) (fun r => rfl) h4 (join (by decide) (join (word_nl w3) (by decide)))
    have h2 := clean_line (a := subjW ++ m.subject.data.toList) (fun r => rfl) h3 (join (by decide) (word_nl w2))
    exact clean_line (a := fromW ++ m.sender.data.toList) (fun r => rfl) h2 (join (by decide) (word_nl w1))
def allM : List (List UInt8) → Option (List Mail)
  | [] => some []
  | s :: r => match parseM s with
    | none => none
    | some m => (allM r).map fun l => m :: l
def parseBox (s : List UInt8) : Option (List Mail) :=
  if s = [] then some [] else match dropPre markW s with
  | none => none
  | some r => if 16 < (splitAll r.length r).length then none else match dropSuf [10] ((splitAll r.length r).getLastD []) with
    | none => none
    | some y => allM ((splitAll r.length r).dropLast ++ [y])
def tailB (m : Mail) (l : List Mail) : List UInt8 := mailText m ++ [10] ++ boxText l
theorem box_cons (m : Mail) (l : List Mail) : boxText (m :: l) = markW ++ tailB m l := by
  show (markW ++ (mailText m ++ [10])) ++ boxText l = _
  unfold tailB
  simp
theorem split_box : ∀ (l : List Mail) (m : Mail) (k : Nat), l.length ≤ k → mailFault m = 0 → (∀ x ∈ l, mailFault x = 0) → ∃ a z, splitAll k (tailB m l) = a ++ [z ++ [10]] ∧ a ++ [z] = (m :: l).map mailText
  | [], m, k, _, hm, _ => by
    refine ⟨[], mailText m, ?_, rfl⟩
    have e : tailB m [] = mailText m ++ [10] := by unfold tailB boxText; simp
    rw [e]
    cases k with
    | zero => rfl
    | succ k => rw [splitAll, cut_last (mail_clean hm)]; rfl
  | x :: l, m, k, hk, hm, hl => by
    obtain ⟨k, rfl⟩ : ∃ j, k = j + 1 := ⟨k - 1, by simp at hk; omega⟩
    obtain ⟨a, z, h1, h2⟩ := split_box l x k (by simpa using hk) (hl x (List.mem_cons_self ..)) fun y hy => hl y (List.mem_cons_of_mem _ hy)
    refine ⟨mailText m :: a, z, ?_, by rw [List.cons_append, h2]; rfl⟩
    have e : tailB m (x :: l) = mailText m ++ sepW ++ tailB x l := by
      show mailText m ++ [10] ++ boxText (x :: l) = _
      rw [box_cons]
      unfold sepW
      simp
    rw [e, splitAll, cut_clean _ (mail_clean hm)]
    simp only
    rw [h1]; rfl
theorem all_back : ∀ (l : List Mail), (∀ x ∈ l, mailFault x = 0) → allM (l.map mailText) = some l
  | [], _ => rfl
  | m :: l, h => by
    rw [List.map_cons, allM, mail_back (h m (List.mem_cons_self ..))]
    simp only
    rw [all_back l fun x hx => h x (List.mem_cons_of_mem _ hx)]; rfl
theorem box_len : ∀ (l : List Mail), l.length ≤ (boxText l).length
  | [] => Nat.le_refl _
  | m :: l => by
    rw [box_cons]
    unfold tailB markW
    have := box_len l
    simp only [List.length_append, List.length_cons, List.length_nil]
    omega
/-- what is boxed is opened -/
theorem box_back {l : List Mail} (hl : l.length ≤ 16) (h : ∀ x ∈ l, mailFault x = 0) : parseBox (boxText l) = some l := by
  cases l with
  | nil => rfl
  | cons m l =>
    have hk : l.length ≤ (tailB m l).length := by
      have := box_len l
      unfold tailB
      simp only [List.length_append, List.length_cons, List.length_nil]
      omega
    obtain ⟨a, z, h1, h2⟩ := split_box l m _ hk (h m (List.mem_cons_self ..)) fun y hy => h y (List.mem_cons_of_mem _ hy)
    have hlen : (a ++ [z ++ [10]]).length = (m :: l).length := by
      have := congrArg List.length h2
      rw [List.length_map] at this
      rw [← this]
      simp
    rw [box_cons]
    unfold parseBox
    rw [if_neg (by unfold markW; simp), pre_app]
    simp only
    rw [h1, if_neg (by omega), List.getLastD_concat, suf_app, List.dropLast_concat]
    simp only
    rw [h2, all_back _ h]
theorem box_app (l k : List Mail) : boxText (l ++ k) = boxText l ++ boxText k := List.flatMap_append ..
end Go.Proofs.YtnekhaacapdmfaaDoor
namespace Go.Proofs.YtnekhaacapdmfaaDoor

theorem cut_index {t : List UInt8} (ht : t ≠ []) : ∀ (s : List UInt8), match cutSub t s with
    | none => Lib.index s t = -1
    | some p => Lib.index s t = (p.1.length : Int) ∧ p.1 = s.take p.1.length ∧ p.2 = s.drop (p.1.length + t.length)
  | [] => by
    rw [cutSub, if_neg ht]
    show Lib.index [] t = -1
    unfold Lib.index
    rw [if_neg (by simpa using ht)]
  | c :: r => by
    have ih := cut_index ht r
    rw [cutSub]
    by_cases hp : t.isPrefixOf (c :: r) = true
    · rw [if_pos hp]
      refine ⟨?_, rfl, by simp⟩
      unfold Lib.index
      rw [if_pos hp]; rfl
    · rw [if_neg hp]
      cases hc : cutSub t r with
      | none =>
        rw [hc] at ih
        show Lib.index (c :: r) t = -1
        unfold Lib.index
        rw [if_neg hp, ih]; rfl
      | some p =>
        rw [hc] at ih
        obtain ⟨h1, h2, h3⟩ := ih
        show Lib.index (c :: r) t = ((c :: p.1).length : Int) ∧ c :: p.1 = (c :: r).take (c :: p.1).length ∧ p.2 = (c :: r).drop ((c :: p.1).length + t.length)
        refine ⟨?_, ?_, ?_⟩
        · unfold Lib.index
          rw [if_neg hp, h1, if_neg (by simp), List.length_cons]; omega
        · rw [List.length_cons, List.take_succ_cons, ← h2]
        · rw [List.length_cons, show p.1.length + 1 + t.length = p.1.length + t.length + 1 by omega, List.drop_succ_cons]; exact h3
/-- cut so many times at most -/
def cutsK (t : List UInt8) : Nat → List UInt8 → List (List UInt8)
  | 0, s => [s]
  | k + 1, s => match cutSub t s with
    | none => [s]
    | some (a, b) => a :: cutsK t k b
theorem splitK_cuts {t : List UInt8} (ht : t ≠ []) : ∀ (k : Nat) (s : List UInt8), Lib.splitK t 0 k s = cutsK t k s
  | 0, s => rfl
  | k + 1, s => by
    have h := cut_index ht s
    rw [Lib.splitK, cutsK]
    cases hc : cutSub t s with
    | none =>
      rw [hc] at h
      rw [if_pos (by rw [h]; rfl)]
    | some p =>
      rw [hc] at h
      obtain ⟨h1, h2, h3⟩ := h
      rw [if_neg (by rw [h1]; simp), h1]
      simp only [Int.toNat_natCast, Nat.add_zero]
      rw [← h2, ← h3, splitK_cuts ht k p.2]
theorem splitN_cuts : ∀ (k : Nat) (s : List UInt8), splitN k s = cutsK [10] k s
  | 0, s => rfl
  | k + 1, s => by
    rw [splitN, cutsK]
    cases cutSub [10] s with
    | none => rfl
    | some p => simp only; rw [splitN_cuts k p.2]
theorem splitAll_cuts : ∀ (k : Nat) (s : List UInt8), splitAll k s = cutsK sepW k s
  | 0, s => rfl
  | k + 1, s => by
    rw [splitAll, cutsK]
    cases cutSub sepW s with
    | none => rfl
    | some p => simp only; rw [splitAll_cuts k p.2]
theorem cut_shorter {t s : List UInt8} {p : List UInt8 × List UInt8} (ht : t ≠ []) (h : cutSub t s = some p) : p.2.length < s.length := by
  have := cut_some (a := p.1) (b := p.2) h
  have hl := congrArg List.length this
  simp only [List.length_append] at hl
  have := List.length_pos_iff.2 ht
  omega
/-- so many cuts are enough -/
theorem cuts_enough {t : List UInt8} (ht : t ≠ []) : ∀ (n k j : Nat) (s : List UInt8), s.length ≤ n → Lib.count s t ≤ k → Lib.count s t ≤ j → cutsK t k s = cutsK t j s
  | n, k, j, s, hn, hk, hj => by
    have h := cut_index ht s
    cases hc : cutSub t s with
    | none =>
      match k, j with
      | 0, 0 => rfl
      | 0, j + 1 => rw [cutsK, cutsK, hc]
      | k + 1, 0 => rw [cutsK, cutsK, hc]
      | k + 1, j + 1 => rw [cutsK, cutsK, hc]
    | some p =>
      rw [hc] at h
      obtain ⟨h1, h2, h3⟩ := h
      have hcnt := Lib.count_hit ht h1
      rw [← h3] at hcnt
      have hsh := cut_shorter ht hc
      match n, k, j, hn, hk, hj with
      | 0, _, _, hn, _, _ => omega
      | n + 1, 0, _, _, hk, _ => omega
      | n + 1, k + 1, 0, _, _, hj => omega
      | n + 1, k + 1, j + 1, hn, hk, hj =>
        rw [cutsK, cutsK, hc]
        simp only
        rw [cuts_enough ht n k j p.2 (by omega) (by omega) (by omega)]
theorem count_len {t : List UInt8} (ht : t ≠ []) : ∀ (n : Nat) (s : List UInt8), s.length ≤ n → Lib.count s t ≤ s.length
  | n, s, hn => by
    have h := cut_index ht s
    cases hc : cutSub t s with
    | none => rw [hc] at h; rw [Lib.count_miss h]; exact Nat.zero_le _
    | some p =>
      rw [hc] at h
      obtain ⟨h1, h2, h3⟩ := h
      have hcnt := Lib.count_hit ht h1
      rw [← h3] at hcnt
      have hsh := cut_shorter ht hc
      match n, hn with
      | 0, hn => omega
      | n + 1, hn =>
        have := count_len ht n p.2 (by omega)
        omega
/-- strings.SplitN(s, "\n", 6) -/
theorem splitN_6 (s : List UInt8) : Lib.splitK [10] 0 (min 6 (s.length + 1) - 1) s = splitN 5 s := by
  rw [splitK_cuts (by simp), splitN_cuts]
  by_cases h : 5 ≤ s.length
  · rw [show min 6 (s.length + 1) - 1 = 5 by omega]
  · have hc := count_len (t := [10]) (by simp) s.length s (Nat.le_refl _)
    exact cuts_enough (by simp) s.length _ _ s (Nat.le_refl _) (by omega) (by omega)
/-- strings.Split(s, "\nFrom - \n") -/
theorem split_sep (s : List UInt8) : Lib.splitK sepW 0 (Lib.count s sepW) s = splitAll s.length s := by
  rw [splitK_cuts (by decide), splitAll_cuts]
  exact cuts_enough (by decide) s.length _ _ s (Nat.le_refl _) (Nat.le_refl _) (count_len (by decide) s.length s (Nat.le_refl _))
end Go.Proofs.YtnekhaacapdmfaaDoor
namespace Go.Proofs.YtnekhaacapdmfaaDoor
open Go.RowKit

theorem atoi_three : ∀ n, n < 1000 → Lib.atoi (dec3 n) = some (n : Int) := by decide +kernel
theorem num_atoi {l : List UInt8} {n : Nat} (h : numOf l = some n) : Lib.atoiAll l = .ok (n : Int) ∧ l.length ≤ 3 ∧ Lib.itoa n = l ∧ n < 1000 := by
  obtain ⟨h1, h2⟩ := num_some h
  have h3 : l.length ≤ 3 := by rw [← h2]; exact dec_len h1
  refine ⟨?_, h3, by rw [itoa_nat, h2], h1⟩
  rw [Lib.atoiAll_short l (by omega), ← h2, digits_three h1, atoi_three n h1]
  rfl
theorem num_of_ok {l : List UInt8} {v : Int} (h0 : 0 ≤ v) (h3 : l.length ≤ 3) (he : Lib.itoa v = l) : numOf l = some v.toNat := by
  obtain ⟨n, rfl⟩ : ∃ n : Nat, v = n := ⟨v.toNat, by omega⟩
  rw [itoa_nat] at he
  have hl : n < 1000 := by
    have h1 := Lib.lt_pow_nDigits n
    have h2 := Lib.decDigits_length n
    rw [he] at h2
    have : (10 : Nat) ^ Lib.nDigits n ≤ 10 ^ 3 := Nat.pow_le_pow_right (by decide) (by omega)
    omega
  rw [← he, num_dec hl]; rfl
def AtoiBad (w : World) (e : Ending) (w' : World) : Prop := ∃ (x : Int) (T : TypeId) (p : Value), I64 x ∧ e = .returned (.tuple #[.int .i64 x, .iface T p]) ∧ Chg Never w w'
theorem atoi_bad (s : ByteArray) (hs : s.size ≤ 1000000000) (h : ∀ v, Lib.atoiAll s.data.toList ≠ .ok v) (w : World) (m : Int) (hg : Globs w m) :
    Calls Tryd.prog 110 #[.string s] w (AtoiBad w) := by
  obtain ⟨e1, h3, h4⟩ := hg.es
  obtain ⟨e2, h5, h6⟩ := hg.er
  cases hx : Lib.atoiAll s.data.toList with
  | ok v => exact absurd hx (h v)
  | range =>
    refine (Tryd.strconv_Atoi_range s (by omega) hx e2 w h5 h6).mono ?_
    rintro e w' ⟨N, rfl, _, _, hb⟩
    obtain ⟨b0, b1⟩ := Lib.atoiSat_bounds s.data.toList
    exact ⟨_, _, _, ⟨by omega, by omega⟩, rfl, Chg.of_below hb⟩
  | _ =>
    refine (Any.strconv_Atoi_syntax Tryd.laysC172 s (by omega) hx e1 w h3 h4).mono ?_
    rintro e w' ⟨N, rfl, _, _, hb⟩
    exact ⟨_, _, _, ⟨by omega, by omega⟩, rfl, Chg.of_below hb⟩
def NumPost (s : ByteArray) (w : World) (e : Ending) (w' : World) : Prop :=
  ∃ x : Int, I64 x ∧ e = .returned (.tuple #[.int .i64 x, .bool (numOf s.data.toList).isSome]) ∧ (∀ n, numOf s.data.toList = some n → x = n) ∧ Chg Never w w'
theorem numPost_no {s : ByteArray} {w w' : World} {e : Ending} (x : Int) (hx : I64 x) (hn : numOf s.data.toList = none) (he : e = .returned (.tuple #[.int .i64 x, .bool false])) (hc : Chg Never w w') : NumPost s w e w' := by
  refine ⟨x, hx, by rw [hn]; exact he, ?_, hc⟩
  intro n h
  rw [hn] at h; cases h
theorem numPost_yes {s : ByteArray} {w w' : World} {e : Ending} (x : Int) (hx : I64 x) (hn : numOf s.data.toList = some x.toNat) (h0 : 0 ≤ x) (he : e = .returned (.tuple #[.int .i64 x, .bool true])) (hc : Chg Never w w') : NumPost s w e w' := by
  refine ⟨x, hx, by rw [hn]; exact he, ?_, hc⟩
  intro n h
  rw [hn] at h; injection h with h; omega
set_option maxHeartbeats 1000000 in
set_option maxRecDepth 100000 in
theorem number_any (s : ByteArray) (hs : s.size ≤ 1000000000) (w : World) (m : Int) (hg : Globs w m) :
    Calls Tryd.prog 101 #[.string s] w (NumPost s w) := by
  by_cases hok : ∃ v, Lib.atoiAll s.data.toList = .ok v
  · obtain ⟨v, hv⟩ := hok
    obtain ⟨vb0, vb1⟩ := Lib.atoiAll_bounds hv
    have hvi : I64 v := ⟨by omega, by omega⟩
    have hno : numOf s.data.toList = none ∨ numOf s.data.toList = some v.toNat ∧ 0 ≤ v ∧ s.size ≤ 3 ∧ Lib.itoa v = s.data.toList := by
      cases hn : numOf s.data.toList with
      | none => exact .inl rfl
      | some n =>
        obtain ⟨q1, q2, q3, _⟩ := num_atoi hn
        rw [hv] at q1
        injection q1 with q1
        subst q1
        exact .inr ⟨by simp, by omega, by rw [Lib.size_eq]; exact q2, q3⟩
    have HNO := Lib.hid hno
    have HV := Lib.hid hv
    clear hno hv
    go_enter Tryd.func101, Tryd.ntmps101
    go_wp2_with fail
    refine (Tryd.strconv_Atoi_ok s (by omega) v HV.out _).mono ?_
    rintro e w1 ⟨rfl, hW⟩
    have hc1 : Chg Never w w1 := by
      rcases hW with rfl | ⟨t, rfl⟩
      · exact Chg.refl _ _
      · exact Chg.of_below (Lib.bytesWorld_below _ _ _)
    clear hW
    by_cases v0 : 0 ≤ v
    · by_cases l3 : s.size ≤ 3
      · have t3 : decide ((s.size : Int) ≤ 3) = true := decide_eq_true (by omega)
        go_wp2_with fail
        refine (Tryd.strconv_Itoa v vb0 (by omega) _ (hg.never hc1).tab).mono ?_
        rintro e w2 ⟨rfl, k, os, rfl⟩
        have hc2 := hc1.trans (chg_grow w1 k os)
        by_cases he : Lib.itoa v = s.data.toList
        · have hyes := Lib.hid (num_of_ok v0 (by rw [← Lib.size_eq]; exact l3) he)
          have ht : ((⟨(Lib.itoa v).toArray⟩ : ByteArray).toList == s.toList) = true := by rw [Lib.toList_data, Lib.toList_data, he]; simp
          clear he HNO
          generalize (⟨(Lib.itoa v).toArray⟩ : ByteArray) = X at ht ⊢
          go_wp2_with fail
          go_ret2
          exact numPost_yes v hvi hyes.out v0 rfl hc2
        · have hn : Hid (numOf s.data.toList = none) := by
            rcases HNO.out with q | q
            · exact q
            · exact absurd q.2.2.2 he
          have ht : ((⟨(Lib.itoa v).toArray⟩ : ByteArray).toList == s.toList) = false := by rw [Lib.toList_data, Lib.toList_data]; simpa using he
          clear he HNO
          generalize (⟨(Lib.itoa v).toArray⟩ : ByteArray) = X at ht ⊢
          go_wp2_with fail
          go_ret2
          exact numPost_no v hvi hn.out rfl hc2
      · have hn : Hid (numOf s.data.toList = none) := by
          rcases HNO.out with q | q
          · exact q
          · exact absurd q.2.2.1 l3
        have t3 : decide ((s.size : Int) ≤ 3) = false := decide_eq_false (by omega)
        clear HNO
        go_wp2_with fail
        go_ret2
        exact numPost_no v hvi hn.out rfl hc1
    · have hn : Hid (numOf s.data.toList = none) := by
        rcases HNO.out with q | q
        · exact q
        · exact absurd q.2.1 v0
      have t0 : decide ((0 : Int) ≤ v) = false := decide_eq_false v0
      clear HNO
      go_wp2_with fail
      go_ret2
      exact numPost_no v hvi hn.out rfl hc1
  · have hn : Hid (numOf s.data.toList = none) := by
      cases hn : numOf s.data.toList with
      | none => rfl
      | some n => exact absurd ⟨_, (num_atoi hn).1⟩ hok
    go_enter Tryd.func101, Tryd.ntmps101
    go_wp2_with fail
    refine (atoi_bad s hs (fun v q => hok ⟨v, q⟩) _ m hg).mono ?_
    rintro e w1 ⟨x, T, p, hx, rfl, hc1⟩
    clear hok
    go_wp2_with fail
    go_ret2
    exact numPost_no x hx hn.out rfl hc1

/-- what read answers: a span's two numbers where it is one -/
def ReadPost (s : ByteArray) (w : World) (e : Ending) (w' : World) : Prop :=
  ∃ x y : Int, e = .returned (.tuple #[.int .i64 x, .int .i64 y, .bool (spanOf s.data.toList).isSome]) ∧ (∀ a n, spanOf s.data.toList = some (a, n) → x = a ∧ y = (n : Int)) ∧ Chg Never w w'
theorem readPost_no {s : ByteArray} {w w' : World} {e : Ending} (x y : Int) (hn : spanOf s.data.toList = none) (he : e = .returned (.tuple #[.int .i64 x, .int .i64 y, .bool false])) (hc : Chg Never w w') : ReadPost s w e w' := by
  refine ⟨x, y, by rw [hn]; exact he, ?_, hc⟩
  intro a n h
  rw [hn] at h; cases h
theorem readPost_yes {s : ByteArray} {w w' : World} {e : Ending} (x : Int) (y : Nat) (hn : spanOf s.data.toList = some (x, y)) (he : e = .returned (.tuple #[.int .i64 x, .int .i64 y, .bool true])) (hc : Chg Never w w') : ReadPost s w e w' := by
  refine ⟨x, y, by rw [hn]; exact he, ?_, hc⟩
  intro a n h
  rw [hn] at h
  injection h with h
  injection h with h1 h2
  exact ⟨h1, by rw [h2]⟩
/-- strings.Cut's parts -/
def cutA (t s : List UInt8) : List UInt8 := match cutSub t s with
  | none => s
  | some p => p.1
def cutB (t s : List UInt8) : List UInt8 := match cutSub t s with
  | none => []
  | some p => p.2
theorem lib_cut {t s : List UInt8} (ht : t ≠ []) : Lib.cut s t = (cutA t s, cutB t s, (cutSub t s).isSome) := by
  have h := cut_index ht s
  unfold Lib.cut cutA cutB
  cases hc : cutSub t s with
  | none =>
    rw [hc] at h
    simp only at h ⊢
    simp [h]
  | some p =>
    rw [hc] at h
    obtain ⟨h1, h2, h3⟩ := h
    simp only
    rw [h1]
    simp [← h2, ← h3]
theorem cutA_len (t s : List UInt8) : (cutA t s).length ≤ s.length := by
  unfold cutA
  cases hc : cutSub t s with
  | none => exact Nat.le_refl _
  | some p => have := congrArg List.length (cut_some (a := p.1) (b := p.2) hc); simp only [List.length_append] at this; simp only; omega
theorem cutB_len (t s : List UInt8) : (cutB t s).length ≤ s.length := by
  unfold cutB
  cases hc : cutSub t s with
  | none => exact Nat.zero_le _
  | some p => have := congrArg List.length (cut_some (a := p.1) (b := p.2) hc); simp only [List.length_append] at this; simp only; omega
theorem span_cut (s : List UInt8) : spanOf s = match numOf (cutA [44] s) with
    | none => none
    | some x => match numOf (cutB [44] s) with
      | none => none
      | some y => if 0 < y then (if x = 0 then none else some ((x : Int) - 1, y)) else some ((x : Int), y) := by
  unfold spanOf cutA cutB
  cases hc : cutSub [44] s with
  | none =>
    simp only
    have : numOf [] = none := rfl
    rw [this]
    cases numOf s <;> rfl
  | some p => rfl

set_option maxHeartbeats 1000000 in
set_option maxRecDepth 100000 in
theorem read_any (s : ByteArray) (hs : s.size ≤ 1000000000) (w : World) (m : Int) (hg : Globs w m) :
    Calls Tryd.prog 83 #[.string s] w (ReadPost s w) := by
  have hsp := span_cut s.data.toList
  have hA := cutA_len [44] s.data.toList
  have hB := cutB_len [44] s.data.toList
  rw [← Lib.size_eq] at hA hB
  obtain ⟨ca, hca⟩ : ∃ x, cutA [44] s.data.toList = x := ⟨_, rfl⟩
  obtain ⟨cb, hcb⟩ : ∃ x, cutB [44] s.data.toList = x := ⟨_, rfl⟩
  have hcut : Hid (Lib.cut s.data.toList (toB [44]).data.toList = (ca, cb, (cutSub [44] s.data.toList).isSome)) := by rw [Hid, toB_data, lib_cut (by simp), hca, hcb]
  rw [hca] at hsp hA
  rw [hcb] at hsp hB
  have HSP := Lib.hid hsp
  clear hsp hca hcb
  go_enter Tryd.func83, Tryd.ntmps83
  go_wp2_with fail
  refine (Tryd.strings_Cut s (toB [44]) m _ (by omega) hg.ml).mono ?_
  rintro e w1 ⟨rfl, nd, rfl⟩
  have hc1 : Chg Never w (w.drewN nd) := (Chg.refl Never w).drewN nd
  rw [hcut.out]
  generalize (cutSub [44] s.data.toList).isSome = fb
  generalize w.drewN nd = w1 at hc1 ⊢
  go_wp2_with fail
  refine (number_any (toB ca) (by rw [toB_size']; omega) _ m (hg.never hc1)).mono ?_
  rintro e w2 ⟨x, hx, rfl, hxn, hc2⟩
  rw [toB_data] at hxn ⊢
  have hc2 := hc1.trans hc2
  go_wp2_with fail
  refine (number_any (toB cb) (by rw [toB_size']; omega) _ m (hg.never hc2)).mono ?_
  rintro e w3 ⟨y, hy, rfl, hyn, hc3⟩
  rw [toB_data] at hyn ⊢
  have hc3 := hc2.trans hc3
  clear hc1 hc2 hcut hA hB
  cases ha : numOf ca with
  | none =>
    have hn : Hid (spanOf s.data.toList = none) := by rw [Hid, HSP.out, ha]
    clear hxn hyn HSP ha
    rw [Option.isSome_none]
    generalize (numOf cb).isSome = fb2
    by_cases hy0 : 0 < y
    · have t0 : decide ((0 : Int) < y) = true := decide_eq_true hy0
      go_wp2_with fail
      go_ret3
      exact readPost_no _ _ hn.out rfl hc3
    · have t0 : decide ((0 : Int) < y) = false := decide_eq_false hy0
      go_wp2_with fail
      go_ret3
      exact readPost_no _ _ hn.out rfl hc3
  | some n1 =>
    have hn1 := numOf_lt ha
    have hx1 := hxn n1 ha
    subst hx1
    rw [Option.isSome_some]
    cases hb : numOf cb with
    | none =>
      have hn : Hid (spanOf s.data.toList = none) := by rw [Hid, HSP.out, ha, hb]
      clear hxn hyn HSP ha hb
      rw [Option.isSome_none]
      by_cases hy0 : 0 < y
      · have t0 : decide ((0 : Int) < y) = true := decide_eq_true hy0
        go_wp2_with fail
        go_ret3
        exact readPost_no _ _ hn.out rfl hc3
      · have t0 : decide ((0 : Int) < y) = false := decide_eq_false hy0
        go_wp2_with fail
        go_ret3
        exact readPost_no _ _ hn.out rfl hc3
    | some n2 =>
      have hn2 := numOf_lt hb
      have hy1 := hyn n2 hb
      subst hy1
      rw [Option.isSome_some]
      have HS : Hid (spanOf s.data.toList = if 0 < n2 then (if n1 = 0 then none else some ((n1 : Int) - 1, n2)) else some ((n1 : Int), n2)) := by rw [Hid, HSP.out, ha, hb]
      clear hxn hyn HSP ha hb
      by_cases h2 : 0 < n2
      · have t0 : decide ((0 : Int) < (n2 : Int)) = true := decide_eq_true (by omega)
        have t0n : decide (0 < n2) = true := decide_eq_true h2
        by_cases h1 : n1 = 0
        · subst h1
          have hn : Hid (spanOf s.data.toList = none) := by rw [Hid, HS.out, if_pos h2, if_pos rfl]
          clear HS
          go_wp2_with fail
          go_ret3
          exact readPost_no _ _ hn.out rfl hc3
        · have hn : Hid (spanOf s.data.toList = some ((n1 : Int) - 1, n2)) := by rw [Hid, HS.out, if_pos h2, if_neg h1]
          have g1 : (0 : Int) ≤ (n1 : Int) - 1 := by omega
          have g2 : (1 : Int) ≤ (n1 : Int) := by omega
          have g3 : decide ((0 : Int) ≤ (n1 : Int) - 1) = true := decide_eq_true g1
          clear HS
          go_wp2_with fail
          go_ret3
          exact readPost_yes _ _ hn.out rfl hc3
      · have t0 : decide ((0 : Int) < (n2 : Int)) = false := decide_eq_false (by omega)
        have t0n : decide (0 < n2) = false := decide_eq_false h2
        have hn : Hid (spanOf s.data.toList = some ((n1 : Int), n2)) := by rw [Hid, HS.out, if_neg h2]
        obtain rfl : n2 = 0 := by omega
        clear HS
        go_wp2_with fail
        go_ret3
        exact readPost_yes _ _ hn.out rfl hc3
end Go.Proofs.YtnekhaacapdmfaaDoor
namespace Go.Proofs.YtnekhaacapdmfaaDoor
open Go.RowKit

/-- append of one element to a row of the call's own, in raw cells -/
theorem run_push_raw {P : Program} {n : Nat} (hn : 0 < n) {t ty e : TypeId} (hP : ElemOk P t e n) {w0 : World} {v : Value} {m : Nat} {xs es : List Value} (E' : TypeId)
    (hx : w0.ownsRow 0 e n v m xs) (hl : es.length = n) (h1 : ∀ u ∈ es, u.oneCell' = true) (hlen : m ≤ 1000000000) :
    ∃ v' w', (Builtin.append_ #[t, t] ty #[v, .slice (some ⟨w0.heap.size, 0, none⟩) 1 1]).run P (w0.alloc (.cells es.toArray E')) = .ok v' w' ∧ w'.ownsRow 0 e n v' (m + 1) (xs ++ es) ∧ Chg (OwnB v) w0 w' ∧ (∃ k, v'.ownBlock = some k ∧ (v.ownBlock = some k ∨ w0.heap.size ≤ k)) := by
  obtain ⟨i, z, hi, hz, hsz, hzs, hby⟩ := hP.info
  have hnl : es.length = 1 * n := by omega
  have hcells : ∀ j u, es[j]? = some u → (w0.alloc (.cells es.toArray E')).cell? ((⟨w0.heap.size, 0, none⟩ : Addr).add j) = some u := by
    intro j u hj
    have e1 : (⟨w0.heap.size, 0, none⟩ : Addr).add j = ⟨w0.heap.size, j, none⟩ := by unfold Addr.add; split <;> simp_all
    rw [e1, World.cell?, heap_alloc_new]
    simpa using hj
  have hx' := hx.alloc (.cells es.toArray E')
  have hbound : (m + 1) * i.bytes ≤ 140737488355328 := by
    have := Nat.mul_le_mul (show m + 1 ≤ 1000000001 by omega) hby
    omega
  obtain ⟨v', w', hrun, hown', hgrow, hnil⟩ := run_append_own (P := P) (w0.alloc (.cells es.toArray E')) 0 t ty e i z n i.bytes hP.ht hi hz hsz rfl hzs hn v m xs hx'
    ⟨w0.heap.size, 0, none⟩ 1 1 es hnl hcells h1 (by unfold maxLen; omega) hbound (Nat.zero_le _)
  obtain ⟨kb, hkb, hkb'⟩ := append_block (P := P) (w0.alloc (.cells es.toArray E')) 0 t ty e i z n i.bytes hP.ht hi hz hsz rfl v m xs hx'
    ⟨w0.heap.size, 0, none⟩ 1 1 es hnl hcells h1 (by unfold maxLen; omega) hbound (by omega) hrun
  have hkb2 : v.ownBlock = some kb ∨ w0.heap.size ≤ kb := by
    rcases hkb' with h | h
    · exact .inl h
    · right; rw [h]; simp
  exact ⟨v', w', hrun, hown', ((Chg.refl (OwnB v) w0).alloc _).trans' (Chg.of_grown hgrow) (fun k _ hk => hk), kb, hkb, hkb2⟩

structure OwnLast (e em : TypeId) (w : World) (O : Nat → Prop) (v : Value) (init : List Hunk) (h : Hunk) (mv : Value) (xs : List Value) : Prop where
  row : w.ownsRow 0 e 3 v (init.length + 1) xs
  out : ∀ k, v.ownBlock = some k → ¬ O k
  firsts : ∀ (i : Nat) (x : Hunk), init[i]? = some x → Dat.rd w (fun k => (O k ∨ v.ownBlock = some k) ∨ mv.ownBlock = some k) ((xs.drop (i * 3)).take 3) x
  last : xs.drop (init.length * 3) = [.int .i64 h.old, .int .i64 h.new, mv]
  marks : Own em w (fun k => O k ∨ v.ownBlock = some k) mv h.marks

/-- closed, it is a slice as any other -/
theorem OwnLast.own {e em : TypeId} {w : World} {O : Nat → Prop} {v : Value} {init : List Hunk} {h : Hunk} {mv : Value} {xs : List Value} (hl : OwnLast e em w O v init h mv xs) : Own e w O v (init ++ [h]) := by
  obtain ⟨h1, h2, h3, h4, h5⟩ := hl
  refine ⟨xs, by rw [List.length_append]; exact h1, h2, ?_⟩
  intro i x hx
  rcases Nat.lt_or_ge i init.length with hi | hi
  · rw [List.getElem?_append_left hi] at hx
    exact Dat.keep (h3 i x hx) (Chg.refl Never w) (fun _ _ h => h.elim) (fun k _ ho => .inl ho)
  · have hil : i = init.length := by
      have := (List.getElem?_eq_some_iff.1 hx).1
      simp at this
      omega
    subst hil
    simp at hx
    subst hx
    show Dat.rd w _ ((xs.drop (init.length * 3)).take 3) h
    rw [h4]
    exact ⟨mv, rfl, h5.rdv⟩

/-- its shape, and the place of the last one's marks -/
theorem OwnLast.shape {e em : TypeId} {w : World} {O : Nat → Prop} {v : Value} {init : List Hunk} {h : Hunk} {mv : Value} {xs : List Value} (hl : OwnLast e em w O v init h mv xs) :
    ∃ g cap, v = .slice (some ⟨g, 0, none⟩) (init.length + 1) cap ∧ g < w.heap.size ∧ ¬ O g ∧ init.length + 1 ≤ cap ∧ cap ≤ maxLen ∧ w.cell? ⟨g, init.length * 3 + 2, none⟩ = some mv ∧ w.cell? ⟨g, init.length * 3, none⟩ = some (.int .i64 h.old) ∧ w.cell? ⟨g, init.length * 3 + 1, none⟩ = some (.int .i64 h.new) ∧ ∀ j, w.frozen? ⟨g, j, none⟩ = false := by
  obtain ⟨h1, h2, h3, h4, h5⟩ := hl
  have h1' := h1
  rcases h1.2 with ⟨rfl, h0⟩ | ⟨g, cap, cur, rfl, hg, hh, hnc, hm, hcs, htake⟩
  · cases h0
  · have hc : ∀ j, j < 3 → w.cell? ⟨g, init.length * 3 + j, none⟩ = (xs.drop (init.length * 3))[j]? := by
      intro j hj
      rw [h1'.cellAt (init.length * 3 + j) (by omega), List.getElem?_drop]
    refine ⟨g, cap, rfl, (h1'.lt g rfl).2, h2 g rfl, hnc, hm, ?_, ?_, ?_, fun j => h1'.frozenAt j⟩
    · rw [hc 2 (by omega), h4]; rfl
    · rw [← Nat.add_zero (init.length * 3), hc 0 (by omega), h4]; rfl
    · rw [hc 1 (by omega), h4]; rfl

/-- a hunk more, without marks -/
theorem run_push_last {P : Program} {t ty e em : TypeId} (hP : ElemOk P t e 3) {w0 : World} {O : Nat → Prop} {v : Value} {l : List Hunk} {o n : Int} (E' : TypeId)
    (hown : Own e w0 O v l) (hO : ∀ k, O k → k < w0.heap.size) (hlen : l.length ≤ 1000000000) :
    ∃ v' w', (Builtin.append_ #[t, t] ty #[v, .slice (some ⟨w0.heap.size, 0, none⟩) 1 1]).run P (w0.alloc (.cells #[.int .i64 o, .int .i64 n, .slice none 0 0] E')) = .ok v' w' ∧ (∃ xs, OwnLast e em w' O v' l ⟨o, n, []⟩ (.slice none 0 0) xs) ∧ Chg (OwnB v) w0 w' := by
  obtain ⟨xs, hx, hb, hel⟩ := id hown
  obtain ⟨v', w', hrun, hrow, hc, kb, hkb, hkb2⟩ := run_push_raw (by decide) hP (ty := ty) (es := [.int .i64 o, .int .i64 n, .slice none 0 0]) E' hx rfl (by intro u hu; simp at hu; rcases hu with rfl | rfl | rfl <;> rfl) hlen
  have hxl : xs.length = l.length * 3 := hx.1
  have hout : ∀ k, v'.ownBlock = some k → ¬ O k := by
    intro k hk ho
    rw [hkb] at hk
    injection hk with hk
    subst hk
    rcases hkb2 with h | h
    · exact hb _ h ho
    · exact absurd (hO _ ho) (by omega)
  refine ⟨v', w', hrun, ⟨xs ++ [.int .i64 o, .int .i64 n, .slice none 0 0], hrow, hout, ?_, ?_, own_nil _ _ _⟩, hc⟩
  · intro i x hi
    have hil := (List.getElem?_eq_some_iff.1 hi).1
    have hr := hel i x hi
    have hle : i * 3 + 3 ≤ xs.length := by omega
    rw [List.drop_append_of_le_length (by omega), List.take_append_of_le_length (by rw [List.length_drop]; omega)]
    refine Dat.keep hr hc (fun k _ hk => .inr hk) ?_
    rintro k hk ((h | h) | h)
    · exact .inl h
    · rw [hkb] at h
      injection h with h
      subst h
      rcases hkb2 with h | h
      · exact .inr h
      · omega
    · cases h
  · rw [← hxl, List.drop_left]
theorem wpList_push_last {P : Program} {ops : Array Oper} {rest : List Oper} {o : Oper} {a : Act} {Q : Exit → Act → World → Prop} (hgd : o.guard = none) (s x : Operand) (t : TypeId)
    (ho : o.op = .call { callee := .builtin .append, args := #[s, x], argTypes := #[t, t] }) {e : TypeId} (em : TypeId) (hP : ElemOk P t e 3) {w0 : World} {O : Nat → Prop} {v : Value} {l : List Hunk} {old new : Int} {E' : TypeId} {B : Nat}
    (hs : a.eval s = v) (hx : a.eval x = .slice (some ⟨B, 0, none⟩) 1 1) (hB : B = w0.heap.size)
    (hown : Own e w0 O v l) (hO : ∀ k, O k → k < w0.heap.size) (hlen : l.length ≤ 1000000000)
    (h : ∀ v' w' xs, OwnLast e em w' O v' l ⟨old, new, []⟩ (.slice none 0 0) xs → Chg (OwnB v) w0 w' → wpList P ops Q rest (a.put o.dst v') w') :
    wpList P ops Q (o :: rest) a (w0.alloc (.cells #[.int .i64 old, .int .i64 new, .slice none 0 0] E')) := by
  subst hB
  refine wpList_plain hgd fun K hK => ?_
  obtain ⟨v', w', hrun, ⟨xs, h1⟩, h2⟩ := run_push_last (ty := o.type) (em := em) (o := old) (n := new) hP E' hown hO hlen
  unfold Oper.wp execOp
  simp only [ho, resolve, invoke, builtin, Sem.run_bind, Sem.run_pure, Result.andThen_ok, List.map_toArray, List.map_cons, List.map_nil, hs, hx, hrun]
  exact hK _ _ (h v' w' xs h1 h2)

/-- the last one's marks, grown by an append in w0 → w1, are stored back -/
theorem OwnLast.stored {e em : TypeId} {w0 w1 : World} {O : Nat → Prop} {g n cap : Nat} {init : List Hunk} {h : Hunk} {mv mv' : Value} {xs : List Value} {ms : List Mark}
    (hl : OwnLast e em w0 O (.slice (some ⟨g, 0, none⟩) n cap) init h mv xs)
    (hown : Own em w1 (fun k => O k ∨ (Value.slice (some ⟨g, 0, none⟩) n cap).ownBlock = some k) mv' ms) (hc : Chg (OwnB mv) w0 w1) (hk : ∃ k, mv'.ownBlock = some k ∧ (mv.ownBlock = some k ∨ w0.heap.size ≤ k)) :
    OwnLast e em (w1.setCell ⟨g, init.length * 3 + 2, none⟩ mv') O (.slice (some ⟨g, 0, none⟩) n cap) init ⟨h.old, h.new, ms⟩ mv' (xs.set (init.length * 3 + 2) mv') := by
  obtain ⟨h1, h2, h3, h4, h5⟩ := hl
  obtain ⟨kb, hkb, hkb2⟩ := hk
  have hn : n = init.length + 1 := by
    rcases h1.2 with ⟨h, _⟩ | ⟨g', cap', cur, h, _⟩
    · cases h
    · simp only [Value.slice.injEq] at h
      exact h.2.1
  subst hn
  have hg0 : g < w0.heap.size := (h1.lt g rfl).2
  have hgm : ¬ OwnB mv g := by
    obtain ⟨_, _, q, _⟩ := h5
    exact fun hh => q g hh (.inr rfl)
  have row1 : w1.ownsRow 0 e 3 (.slice (some ⟨g, 0, none⟩) (init.length + 1) cap) (init.length + 1) xs := by
    refine ⟨h1.1, ?_⟩
    rcases h1.2 with h | ⟨g', cap', cur, hv, r1, r2, r3⟩
    · exact .inl h
    · simp only [Value.slice.injEq, Option.some.injEq, Addr.mk.injEq, and_true, true_and] at hv
      obtain ⟨rfl, rfl⟩ := hv
      exact .inr ⟨g, cap, cur, rfl, r1, (hc.block g hg0 hgm).trans r2, r3⟩
  have hst := (row1.stored (init.length * 3 + 2) mv').1
  have hc2 : Chg (fun k => k = g) w1 (w1.setCell ⟨g, init.length * 3 + 2, none⟩ mv') := (Chg.refl (fun k => k = g) w1).setCell (p := ⟨g, init.length * 3 + 2, none⟩) (.inr rfl) mv'
  have hxl : xs.length = (init.length + 1) * 3 := h1.1
  refine ⟨hst, h2, ?_, ?_, ?_⟩
  · intro i x hi
    have hil := (List.getElem?_eq_some_iff.1 hi).1
    have hr := h3 i x hi
    have e1 : ((xs.set (init.length * 3 + 2) mv').drop (i * 3)).take 3 = (xs.drop (i * 3)).take 3 := by
      apply List.ext_getElem?
      intro j
      rw [List.getElem?_take, List.getElem?_take]
      by_cases hj : j < 3
      · rw [if_pos hj, if_pos hj, List.getElem?_drop, List.getElem?_drop, List.getElem?_set_ne (by omega)]
      · rw [if_neg hj, if_neg hj]
    rw [e1]
    refine Dat.keep (Dat.keep hr hc (O'' := fun k => (O k ∨ (Value.slice (some ⟨g, 0, none⟩) (init.length + 1) cap).ownBlock = some k) ∨ mv'.ownBlock = some k) (fun k _ hk => .inr hk) ?_) hc2 ?_ (fun k _ h => h)
    · rintro k hk (h | h)
      · exact .inl h
      · rw [hkb] at h
        injection h with h
        subst h
        rcases hkb2 with h | h
        · exact .inr h
        · omega
    · rintro k _ rfl
      exact .inl (.inr rfl)
  · apply List.ext_getElem?
    intro j
    have h4j : xs[init.length * 3 + j]? = [Value.int .i64 h.old, .int .i64 h.new, mv][j]? := by rw [← List.getElem?_drop, h4]
    rw [List.getElem?_drop]
    match j with
    | 0 => rw [List.getElem?_set_ne (by omega), h4j]; rfl
    | 1 => rw [List.getElem?_set_ne (by omega), h4j]; rfl
    | 2 => rw [List.getElem?_set_self (by omega)]; rfl
    | j + 3 => rw [List.getElem?_set_ne (by omega), h4j]; rfl
  · refine hown.keep hc2 ?_ (fun k _ h => h)
    rintro k _ rfl
    exact .inr rfl

theorem OwnLast.keep {e em : TypeId} {w w' : World} {O : Nat → Prop} {v : Value} {init : List Hunk} {h : Hunk} {mv : Value} {xs : List Value} (hl : OwnLast e em w O v init h mv xs) (hc : Chg Never w w') : OwnLast e em w' O v init h mv xs := by
  obtain ⟨h1, h2, h3, h4, h5⟩ := hl
  refine ⟨⟨h1.1, ?_⟩, h2, fun i x hi => Dat.never (h3 i x hi) hc, h4, h5.never hc⟩
  rcases h1.2 with h | ⟨g', cap', cur, hv, r1, r2, r3⟩
  · exact .inl h
  · subst hv
    exact .inr ⟨g', cap', cur, rfl, r1, (hc.block g' (h1.lt g' rfl).2 (fun x => x)).trans r2, r3⟩
end Go.Proofs.YtnekhaacapdmfaaDoor
namespace Go.Proofs.YtnekhaacapdmfaaDoor
open Go.RowKit

theorem OwnLast.keepO {e em : TypeId} {w w' : World} {O O' O'' : Nat → Prop} {v : Value} {init : List Hunk} {h : Hunk} {mv : Value} {xs : List Value} (hl : OwnLast e em w O v init h mv xs) (hc : Chg O' w w')
    (k1 : ∀ k, k < w.heap.size → O' k → O k) (k2 : ∀ k, k < w.heap.size → O'' k → O k) : OwnLast e em w' O'' v init h mv xs := by
  obtain ⟨h1, h2, h3, h4, h5⟩ := hl
  have hlt := fun k hk => (h1.lt k hk).2
  refine ⟨⟨h1.1, ?_⟩, fun k hk ho => h2 k hk (k2 k (hlt k hk) ho), fun i x hi => ?_, h4, ?_⟩
  · rcases h1.2 with h | ⟨g', cap', cur, hv, r1, r2, r3⟩
    · exact .inl h
    · subst hv
      exact .inr ⟨g', cap', cur, rfl, r1, (hc.block g' (hlt g' rfl) (fun ho => h2 g' rfl (k1 g' (hlt g' rfl) ho))).trans r2, r3⟩
  · refine Dat.keep (h3 i x hi) hc (fun k hk ho => .inl (.inl (k1 k hk ho))) ?_
    rintro k hk ((ho | ho) | ho)
    · exact .inl (.inl (k2 k hk ho))
    · exact .inl (.inr ho)
    · exact .inr ho
  · refine h5.keep hc (fun k hk ho => .inl (k1 k hk ho)) ?_
    rintro k hk (ho | ho)
    · exact .inl (k2 k hk ho)
    · exact .inr ho

/-- the blocks that a reader's rows avoid: what was there before, and its own box -/
def RdO (W0 B : Nat) : Nat → Prop := fun k => k < W0 ∨ k = B
structure RdrAt (w : World) (W0 B : Nat) (v : Value) (hs : List Hunk) (o n : Nat) : Prop where
  base : W0 ≤ B
  box : Blk3 w B 107 v (.int .i64 o) (.int .i64 n)
  rows : (hs = [] ∧ v = .slice none 0 0) ∨ ∃ init h mv xs, hs = init ++ [h] ∧ OwnLast 46 100 w (RdO W0 B) v init h mv xs
theorem RdrAt.own {w : World} {W0 B : Nat} {v : Value} {hs : List Hunk} {o n : Nat} (h : RdrAt w W0 B v hs o n) : Own 46 w (RdO W0 B) v hs := by
  rcases h.rows with ⟨rfl, rfl⟩ | ⟨init, x, mv, xs, rfl, hl⟩
  · exact own_nil _ _ _
  · exact hl.own
theorem RdrAt.keep {w w' : World} {W0 B : Nat} {v : Value} {hs : List Hunk} {o n : Nat} (h : RdrAt w W0 B v hs o n) (hc : Chg Never w w') : RdrAt w' W0 B v hs o n := by
  refine ⟨h.base, h.box.keep hc (fun x => x), ?_⟩
  rcases h.rows with q | ⟨init, x, mv, xs, e, hl⟩
  · exact .inl q
  · exact .inr ⟨init, x, mv, xs, e, hl.keep hc⟩
theorem RdrAt.new (w : World) : RdrAt (w.alloc (.cells #[.slice none 0 0, .int .i64 0, .int .i64 0] 107)) w.heap.size w.heap.size (.slice none 0 0) [] 0 0 :=
  ⟨Nat.le_refl _, Blk3.new w _ _ _ _, .inl ⟨rfl, rfl⟩⟩
/-- the box's cells may be written -/
theorem RdrAt.set {w w' : World} {W0 B : Nat} {v : Value} {hs : List Hunk} {o n o' n' : Nat} (h : RdrAt w W0 B v hs o n) (hb : Blk3 w' B 107 v (.int .i64 o') (.int .i64 n')) (hc : Chg (fun k => k = B) w w') : RdrAt w' W0 B v hs o' n' := by
  refine ⟨h.base, hb, ?_⟩
  rcases h.rows with q | ⟨init, x, mv, xs, e, hl⟩
  · exact .inl q
  · exact .inr ⟨init, x, mv, xs, e, hl.keepO hc (fun _ _ hk => .inr hk) (fun _ _ hk => hk)⟩
theorem RdrAt.nil {w : World} {W0 B : Nat} {v : Value} {o n : Nat} (h : RdrAt w W0 B v [] o n) : v = .slice none 0 0 := by
  rcases h.rows with ⟨_, q⟩ | ⟨init, x, mv, xs, e, hl⟩
  · exact q
  · simp at e
theorem RdrAt.lt {w : World} {W0 B : Nat} {v : Value} {hs : List Hunk} {o n : Nat} (h : RdrAt w W0 B v hs o n) : B < w.heap.size := h.box.lt
/-- read, it is as any other slice -/
theorem RdrAt.rdv {w : World} {W0 B : Nat} {v : Value} {hs : List Hunk} {o n : Nat} (h : RdrAt w W0 B v hs o n) : Rdv w (RdO W0 B) v hs := h.own.rdv
end Go.Proofs.YtnekhaacapdmfaaDoor
namespace Go.Proofs.YtnekhaacapdmfaaDoor
open Go.RowKit

theorem box3' {w w1 : World} {x y z x' y' z' : Value} {t t' : TypeId} (hc : Chg Never ((w.alloc (.cells #[x, y, z] t)).alloc (.cells #[x', y', z'] t')) w1) :
    (w1.cell? ⟨w.heap.size, 0, none⟩ = some x ∧ w1.cell? ⟨w.heap.size, 1, none⟩ = some y ∧ w1.cell? ⟨w.heap.size, 2, none⟩ = some z) ∧
    (w1.cell? ⟨w.heap.size + 1, 0, none⟩ = some x' ∧ w1.cell? ⟨w.heap.size + 1, 1, none⟩ = some y' ∧ w1.cell? ⟨w.heap.size + 1, 2, none⟩ = some z') := by
  have h1 := box3 (((Chg.refl Never _).alloc (.cells #[x', y', z'] t')).trans hc)
  have h2 := box3 hc
  simp only [World.size_alloc] at h2
  exact ⟨h1, h2⟩


theorem hunk_eq_any (h k : Hunk) (hv kv : Value) (w : World) (hh : Rdv w Never hv h.marks) (hk : Rdv w Never kv k.marks) :
    Calls Tryd.prog 63 #[.agg #[.int .i64 h.old, .int .i64 h.new, hv], .agg #[.int .i64 k.old, .int .i64 k.new, kv]] w fun e w' => e = .returned (.bool (decide (h = k))) ∧ Chg Never w w' := by
  obtain ⟨a, cap, rfl, _, _, _⟩ := rdv_slice hh
  obtain ⟨b, cap', rfl, _, _, _⟩ := rdv_slice hk
  have E : decide (h = k) = (decide (h.marks = k.marks) && h.old == k.old && h.new == k.new) := by
    obtain ⟨ho, hn, hm⟩ := h
    obtain ⟨ko, kn, km⟩ := k
    by_cases h1 : ho = ko <;> by_cases h2 : hn = kn <;> by_cases h3 : hm = km <;> simp [h1, h2, h3]
  rw [E]
  clear E
  by_cases hm : h.marks = k.marks
  · rw [decide_eq_true hm]
    have HM := Lib.hid (decide_eq_true hm)
    clear hm
    by_cases ho : h.old = k.old
    · have t1 : (h.old == k.old) = true := by simp [ho]
      rw [t1]
      clear ho
      go_enter Tryd.func63, Tryd.ntmps63
      go_wp2_with fail
      refine (marks_any h.marks k.marks _ _ _ (hh.never (((Chg.refl _ _).alloc _).alloc _)) (hk.never (((Chg.refl _ _).alloc _).alloc _))).mono ?_
      rintro e w1 ⟨rfl, hc1⟩
      obtain ⟨⟨x0, x1, x2⟩, ⟨y0, y1, y2⟩⟩ := box3' hc1
      have hw : Chg Never w w1 := (((Chg.refl _ _).alloc _).alloc _).trans hc1
      clear hc1
      rw [HM.out]
      go_wp2_with fail
      go_ret
      exact ⟨rfl, hw⟩
    · have t1 : (h.old == k.old) = false := by simp [ho]
      rw [t1]
      clear ho
      go_enter Tryd.func63, Tryd.ntmps63
      go_wp2_with fail
      refine (marks_any h.marks k.marks _ _ _ (hh.never (((Chg.refl _ _).alloc _).alloc _)) (hk.never (((Chg.refl _ _).alloc _).alloc _))).mono ?_
      rintro e w1 ⟨rfl, hc1⟩
      obtain ⟨⟨x0, x1, x2⟩, ⟨y0, y1, y2⟩⟩ := box3' hc1
      have hw : Chg Never w w1 := (((Chg.refl _ _).alloc _).alloc _).trans hc1
      clear hc1
      rw [HM.out]
      go_wp2_with fail
      go_ret
      exact ⟨rfl, hw⟩
  · rw [decide_eq_false hm]
    have HM := Lib.hid (decide_eq_false hm)
    clear hm
    go_enter Tryd.func63, Tryd.ntmps63
    go_wp2_with fail
    refine (marks_any h.marks k.marks _ _ _ (hh.never (((Chg.refl _ _).alloc _).alloc _)) (hk.never (((Chg.refl _ _).alloc _).alloc _))).mono ?_
    rintro e w1 ⟨rfl, hc1⟩
    obtain ⟨⟨x0, x1, x2⟩, ⟨y0, y1, y2⟩⟩ := box3' hc1
    have hw : Chg Never w w1 := (((Chg.refl _ _).alloc _).alloc _).trans hc1
    clear hc1
    rw [HM.out]
    go_wp2_with fail
    go_ret
    exact ⟨rfl, hw⟩

set_option maxRecDepth 100000 in
theorem hunks_eq_any (l m : List Hunk) (v u : Value) (w : World) (h : Rdv w Never v l) (g : Rdv w Never u m) :
    Calls Tryd.prog 44 #[v, u] w fun e w' => e = .returned (.bool (decide (l = m))) ∧ Chg Never w w' := by
  obtain ⟨a, cap, rfl, h1, h2, h3⟩ := rdv_slice h
  obtain ⟨c, cap', rfl, g1, g2, g3⟩ := rdv_slice g
  unfold maxLen at h2 g2
  by_cases h4 : l.length = m.length
  · have h4' : ((l.length : Int) != m.length) = false := by simp [h4]
    have H4 := Lib.hid h4
    clear h4
    go_enter Tryd.func44, Tryd.ntmps44
    go_wp2
    go_loopw [5] (fun i wr => ∃ k : Nat, k ≤ l.length ∧ i = .int .i64 k ∧ Hid (l.take k = m.take k) ∧ Chg Never w wr) (fun i _ => l.length - (intOf i).toNat)
    case atStart => exact ⟨0, Nat.zero_le _, rfl, by simp [Hid], Chg.refl _ _⟩
    case round =>
      obtain ⟨k, hk, rfl, hf, hc⟩ := hrel
      by_cases hlt : k < l.length
      · obtain ⟨x, hx⟩ : ∃ x, l[k]? = some x := ⟨l[k], by simp [hlt]⟩
        obtain ⟨y, hy⟩ : ∃ y, m[k]? = some y := ⟨m[k]'(by rw [← H4.out]; exact hlt), by simp [H4.out ▸ hlt]⟩
        obtain ⟨b, off, mv, rfl, _, _, c0, c1, c2, hmv⟩ := elems_hunk h3 hx
        obtain ⟨b', off', mv', rfl, _, _, d0, d1, d2, hmv'⟩ := elems_hunk g3 hy
        have c0 := hc.cellNever c0
        have c1 := hc.cellNever c1
        have c2 := hc.cellNever c2
        have d0 := hc.cellNever d0
        have d1 := hc.cellNever d1
        have d2 := hc.cellNever d2
        have hmv := hmv.never hc
        have hmv' := hmv'.never hc
        clear h3 g3 h g
        have hlm : k < m.length := by rw [← H4.out]; exact hlt
        have HX := Lib.hid hx
        have HY := Lib.hid hy
        clear hx hy
        have b1 : (k : Int) < l.length := by omega
        have b2 : (k : Int) < m.length := by omega
        go_wp2_with fail
        refine wp_region_still_tail 8 (by kernel_rfl) (by kernel_rfl) ?_
        simp only [List.take_succ_cons, List.take_zero, List.drop_succ_cons, List.drop_zero]
        change wpStill _ _ wr.drew _ _ _
        repeat still_step
        refine wpStill_nil ?_
        change wpList _ _ _ _ _ wr.drew
        have hcd : Chg Never w wr.drew := hc.drew
        have hmd := hmv.never ((Chg.refl Never wr).drew)
        have hmd' := hmv'.never ((Chg.refl Never wr).drew)
        generalize wr.drew = w3 at hcd hmd hmd'
        go_wp2_with fail
        refine (hunk_eq_any x y _ _ _ hmd hmd').mono ?_
        rintro e w4 ⟨rfl, hc4⟩
        have hc5 := hcd.trans hc4
        by_cases hxy : x = y
        · subst hxy
          rw [decide_eq_true rfl]
          go_wp2_with fail
          go_roundw
          case rel => exact ⟨k + 1, by omega, by go_num, take_same hf HX.out HY.out, hc5⟩
          case measure => simp [intOf] <;> omega
        · rw [decide_eq_false hxy]
          go_wp2_with fail
          go_ret
          exact ⟨by rw [decide_eq_false (ne_of_get HX.out HY.out hxy)]; rfl, hc5⟩
      · go_wp2
        go_ret
        have E : l = m := by
          have := hf.out
          rwa [List.take_of_length_le (by omega), List.take_of_length_le (by rw [← H4.out]; omega)] at this
        exact ⟨by rw [decide_eq_true E]; rfl, hc⟩
  · have h4' : ((l.length : Int) != m.length) = true := by simp; omega
    go_enter Tryd.func44, Tryd.ntmps44
    go_wp2
    go_ret
    exact ⟨by rw [decide_eq_false (fun e => h4 (by rw [e]))]; rfl, Chg.refl _ _⟩
end Go.Proofs.YtnekhaacapdmfaaDoor
namespace Go.Proofs.YtnekhaacapdmfaaDoor

def isChange (m : Mark) : Bool := !(m.sign == 32)
/-- is mark k within n of one that takes or puts? -/
def inAt (s : List Mark) (n : Int) (k : Nat) : Bool := (List.range s.length).any fun i => (s[i]?.any isChange) && decide ((k : Int) ≤ i + n) && decide ((i : Int) ≤ k + n)
/-- a mark more in the last hunk -/
def pushLast (out : List Hunk) (m : Mark) : List Hunk :=
  match out.getLast? with
  | some h => out.dropLast ++ [{ h with marks := h.marks ++ [m] }]
  | none => out
/-- one step: the hunks so far, whether the mark ahead was in one, how many old and new lines stand ahead -/
def cutStep (out : List Hunk) (was inn : Bool) (before after : Nat) (m : Mark) : List Hunk :=
  if inn then pushLast (if was then out else out ++ [⟨before, after, []⟩]) m else out
def cutTo (s : List Mark) (n : Int) : Nat → List Hunk
  | 0 => []
  | k + 1 => match s[k]? with
    | some m => cutStep (cutTo s n k) (decide (0 < k) && inAt s n (k - 1)) (inAt s n k) (oldN (s.take k)) (newN (s.take k)) m
    | none => cutTo s n k
def cutOf (s : List Mark) (n : Int) : List Hunk := cutTo s n s.length
def cutFault (s : List Mark) (n : Int) : Int :=
  if scriptFault s ≠ 0 then scriptFault s else if n < 0 ∨ 1000 < n then 1 else if 60 < oldN s ∨ 60 < newN s then 3 else 0
end Go.Proofs.YtnekhaacapdmfaaDoor
namespace Go.Proofs.YtnekhaacapdmfaaDoor
open Go.RowKit

/-- which marks are near one of the first i -/
def nearTo (s : List Mark) (n : Int) (i k : Nat) : Bool :=
  (List.range i).any fun j => (s[j]?.any isChange) && decide ((k : Int) ≤ j + n) && decide ((j : Int) ≤ k + n) && (k == j || (s[k]?.any fun m => m.sign == 32))
def BoolRow (B : Nat) (wr : World) (len : Nat) (f : Nat → Bool) : Prop :=
  ∃ c : Array Value, wr.heap[B]? = some (.cells c 4 (0, 0)) ∧ c.size = len ∧ ∀ k, k < len → c[k]? = some (.bool (f k))

theorem BoolRow.cell {B : Nat} {wr : World} {len : Nat} {f : Nat → Bool} (h : BoolRow B wr len f) {k : Nat} (hk : k < len) : wr.cell? ⟨B, k, none⟩ = some (.bool (f k)) := by
  obtain ⟨c, h1, h2, h3⟩ := h
  simp only [World.cell?, h1]
  exact h3 k hk
theorem BoolRow.free {B : Nat} {wr : World} {len : Nat} {f : Nat → Bool} (h : BoolRow B wr len f) (k : Nat) : wr.frozen? ⟨B, k, none⟩ = false := by
  obtain ⟨c, h1, h2, h3⟩ := h
  simp [World.frozen?, h1]
theorem BoolRow.keep {B : Nat} {wr w' : World} {len : Nat} {f : Nat → Bool} {O : Nat → Prop} (h : BoolRow B wr len f) (hc : Chg O wr w') (hB : ¬ O B) : BoolRow B w' len f := by
  obtain ⟨c, h1, h2⟩ := h
  refine ⟨c, ?_, h2⟩
  rw [hc.block B (Array.getElem?_eq_some_iff.1 h1).1 hB]
  exact h1
theorem BoolRow.set {B : Nat} {wr : World} {len : Nat} {f : Nat → Bool} (h : BoolRow B wr len f) {k : Nat} (hk : k < len) (b : Bool) {g : Nat → Bool} (hg : ∀ j, j < len → g j = if j = k then b else f j) :
    BoolRow B (wr.setCell ⟨B, k, none⟩ (.bool b)) len g := by
  obtain ⟨c, h1, h2, h3⟩ := h
  refine ⟨c.setIfInBounds k (.bool b), ?_, by simpa using h2, ?_⟩
  · simp [World.setCell, Array.getElem?_modify, h1]
  · intro j hj
    rw [Array.getElem?_setIfInBounds, hg j hj]
    by_cases e : j = k
    · subst e; simp [h2, hj]
    · rw [if_neg (fun h => e h.symm), if_neg e]; exact h3 j hj

def keptAt (s : List Mark) (k : Nat) : Bool := s[k]?.any fun m => m.sign == 32
def inWin (n : Int) (i k : Nat) : Bool := decide ((k : Int) ≤ i + n) && decide ((i : Int) ≤ k + n)
theorem nearTo_succ {s : List Mark} {n : Int} {i k : Nat} {x : Mark} (hx : s[i]? = some x) :
    nearTo s n (i + 1) k = (nearTo s n i k || (isChange x && inWin n i k && (k == i || keptAt s k))) := by
  unfold nearTo inWin keptAt
  rw [List.range_succ, List.any_append]
  simp [hx, Bool.and_assoc]
theorem nearTo_kept {s : List Mark} {n : Int} {i : Nat} {x : Mark} (hx : s[i]? = some x) (h : x.sign = 32) : nearTo s n i = nearTo s n (i + 1) := by
  funext k
  rw [nearTo_succ hx]
  simp [isChange, h]
/-- the row in the midst of mark i: done from lo to c -/
def midRow (s : List Mark) (n : Int) (i : Nat) (c : Int) (k : Nat) : Bool := if (k : Int) < c then nearTo s n (i + 1) k else nearTo s n i k
theorem midRow_start {s : List Mark} {n : Int} {i : Nat} {x : Mark} (hx : s[i]? = some x) (hn : 0 ≤ n) (k : Nat) : midRow s n i (max 0 ((i : Int) - n)) k = nearTo s n i k := by
  unfold midRow
  split
  · rw [nearTo_succ hx]
    have : inWin n i k = false := by
      unfold inWin
      rename_i h
      have : decide ((i : Int) ≤ k + n) = false := by simp; omega
      simp [this]
    simp [this]
  · rfl
theorem midRow_end {s : List Mark} {n : Int} {i : Nat} {x : Mark} {c : Int} (hx : s[i]? = some x) (hc : min ((s.length : Int) - 1) (i + n) < c) {k : Nat} (hk : k < s.length) : midRow s n i c k = nearTo s n (i + 1) k := by
  unfold midRow
  split
  · rfl
  · rw [nearTo_succ hx]
    have : inWin n i k = false := by
      unfold inWin
      rename_i h
      have : decide ((k : Int) ≤ i + n) = false := by simp; omega
      simp [this]
    simp [this]
theorem midRow_step {s : List Mark} {n : Int} {i c : Nat} (j : Nat) : midRow s n i ((c : Int) + 1) j = if j = c then nearTo s n (i + 1) c else midRow s n i c j := by
  unfold midRow
  by_cases h : j = c
  · subst h; simp; omega
  · rw [if_neg h]
    by_cases h1 : (j : Int) < c
    · rw [if_pos h1, if_pos (by omega)]
    · rw [if_neg h1, if_neg (by omega)]
theorem nearTo_inAt {s : List Mark} {n : Int} (hn : 0 ≤ n) {k : Nat} (hk : k < s.length) : nearTo s n s.length k = inAt s n k := by
  rw [Bool.eq_iff_iff]
  unfold nearTo inAt
  rw [List.any_eq_true, List.any_eq_true]
  have hsk : s[k]? = some s[k] := by simp [hk]
  constructor
  · rintro ⟨j, hj, hp⟩
    rw [Bool.and_eq_true] at hp
    exact ⟨j, hj, hp.1⟩
  · rintro ⟨j, hj, hp⟩
    by_cases hc : (s[k]).sign = 32
    · refine ⟨j, hj, ?_⟩
      rw [Bool.and_eq_true]
      exact ⟨hp, by simp [hsk, hc]⟩
    · refine ⟨k, List.mem_range.2 hk, ?_⟩
      simp [hsk, isChange, hc]
      omega

theorem boolRow_made {w1 : World} {B len : Nat} (h : w1.ownsRow 0 4 1 (.slice (some ⟨B, 0, none⟩) len len) len (madeCells (Value.bool false).cells (len * 1)).toList) : BoolRow B w1 len fun _ => false := by
  obtain ⟨_, hx⟩ := h
  rcases hx with ⟨h, _⟩ | ⟨g, cap, cur, hv, _, hh, hn, hm, hcs, htake⟩
  · cases h
  · injection hv with hv1 _ hv3
    injection hv1 with hv1
    injection hv1 with hv1
    subst hv1 hv3
    refine ⟨cur, hh, by simpa using hcs, ?_⟩
    intro k hk
    have e : cur.toList[k]? = (cur.toList.take (len * 1))[k]? := by rw [List.getElem?_take, if_pos (by omega)]
    rw [← Array.getElem?_toList, e, htake]
    simp [madeCells, Value.cells, hk, Nat.mod_one]

end Go.Proofs.YtnekhaacapdmfaaDoor
namespace Go.Proofs.YtnekhaacapdmfaaDoor

/-- p, seen from its beginning on, has the pieces l, and all else of it is kept (true: another piece may begin here) -/
inductive Pcs : Bool → List Mark → List Hunk → Prop
  | nil : Pcs true [] []
  | keep {b : Bool} {p : List Mark} {l : List Hunk} {m : Mark} : Pcs b p l → m.sign = 32 → Pcs true (p ++ [m]) l
  | hunk {p : List Mark} {l : List Hunk} (m : List Mark) : Pcs true p l → hasChange m = true → Pcs false (p ++ m) (l ++ [⟨oldN p, newN p, m⟩])

theorem inAt_iff {s : List Mark} {n : Int} {k : Nat} : inAt s n k = true ↔ ∃ (i : Nat) (x : Mark), s[i]? = some x ∧ x.sign ≠ 32 ∧ (k : Int) ≤ i + n ∧ (i : Int) ≤ k + n := by
  unfold inAt
  rw [List.any_eq_true]
  constructor
  · rintro ⟨i, hi, hp⟩
    rw [List.mem_range] at hi
    have hx : s[i]? = some s[i] := by simp [hi]
    rw [hx] at hp
    simp only [Option.any_some, isChange, Bool.and_eq_true, decide_eq_true_eq, Bool.not_eq_true', beq_eq_false_iff_ne] at hp
    exact ⟨i, _, hx, hp.1.1, hp.1.2, hp.2⟩
  · rintro ⟨i, x, hx, h1, h2, h3⟩
    refine ⟨i, List.mem_range.2 (List.getElem?_eq_some_iff.1 hx).1, ?_⟩
    rw [hx]
    simp only [Option.any_some, isChange, Bool.and_eq_true, decide_eq_true_eq, Bool.not_eq_true', beq_eq_false_iff_ne]
    exact ⟨⟨h1, h2⟩, h3⟩

def wasIn (s : List Mark) (n : Int) (k : Nat) : Bool := decide (0 < k) && inAt s n (k - 1)
theorem wasIn_succ (s : List Mark) (n : Int) (k : Nat) : wasIn s n (k + 1) = inAt s n k := by simp [wasIn]
theorem wasIn_zero (s : List Mark) (n : Int) : wasIn s n 0 = false := rfl

theorem cutTo_succ {s : List Mark} {n : Int} {k : Nat} {x : Mark} (hx : s[k]? = some x) :
    cutTo s n (k + 1) = cutStep (cutTo s n k) (wasIn s n k) (inAt s n k) (oldN (s.take k)) (newN (s.take k)) x := by
  rw [cutTo, hx]; rfl
theorem pushLast_snoc (l : List Hunk) (h : Hunk) (m : Mark) : pushLast (l ++ [h]) m = l ++ [⟨h.old, h.new, h.marks ++ [m]⟩] := by
  unfold pushLast
  rw [List.getLast?_concat]
  simp
theorem cutTo_out {s : List Mark} {n : Int} {k : Nat} {x : Mark} (hx : s[k]? = some x) (h : inAt s n k = false) : cutTo s n (k + 1) = cutTo s n k := by
  rw [cutTo_succ hx, h]; rfl
theorem cutTo_new {s : List Mark} {n : Int} {k : Nat} {x : Mark} (hx : s[k]? = some x) (h : inAt s n k = true) (h' : wasIn s n k = false) :
    cutTo s n (k + 1) = cutTo s n k ++ [⟨oldN (s.take k), newN (s.take k), [x]⟩] := by
  rw [cutTo_succ hx, h, h']
  exact pushLast_snoc _ _ _
theorem cutTo_more {s : List Mark} {n : Int} {k : Nat} {x : Mark} {l : List Hunk} {q : Hunk} (hx : s[k]? = some x) (h : inAt s n k = true) (h' : wasIn s n k = true) (e : cutTo s n k = l ++ [q]) :
    cutTo s n (k + 1) = l ++ [⟨q.old, q.new, q.marks ++ [x]⟩] := by
  rw [cutTo_succ hx, h, h', e]
  exact pushLast_snoc _ _ _

theorem take_snoc' {α : Type} {s : List α} {k : Nat} {x : α} (hx : s[k]? = some x) : s.take (k + 1) = s.take k ++ [x] := by
  rw [List.take_add_one, hx]; rfl

theorem change_in {s : List Mark} {n : Int} (hn : 0 ≤ n) {k : Nat} {x : Mark} (hx : s[k]? = some x) (h : inAt s n k = false) : x.sign = 32 := by
  by_cases hs : x.sign = 32
  · exact hs
  · have : inAt s n k = true := inAt_iff.2 ⟨k, x, hx, hs, by omega, by omega⟩
    rw [this] at h; cases h

/-- the piece that is open at k -/
structure PieceOpen (s : List Mark) (n : Int) (k : Nat) (p m : List Mark) (l : List Hunk) : Prop where
  eq : s.take k = p ++ m
  pcs : Pcs true p l
  cut : cutTo s n k = l ++ [⟨oldN p, newN p, m⟩]
  lt : p.length < k
  inn : ∀ j, p.length ≤ j → j < k → inAt s n j = true
  out : p.length = 0 ∨ inAt s n (p.length - 1) = false

theorem PieceOpen.change {s : List Mark} {n : Int} (hn : 0 ≤ n) {k : Nat} {p m : List Mark} {l : List Hunk} (h : PieceOpen s n k p m l) (hk : k ≤ s.length) (hk' : k = s.length ∨ inAt s n k = false) : hasChange m = true := by
  obtain ⟨e, _, _, hlt, hin, hout⟩ := h
  obtain ⟨i, x, hx, h1, h2, h3⟩ := inAt_iff.1 (hin (k - 1) (by omega) (by omega))
  have hil := (List.getElem?_eq_some_iff.1 hx).1
  have c1 : i < k := by
    rcases Nat.lt_or_ge i k with h | h
    · exact h
    · rcases hk' with h' | h'
      · omega
      · have : inAt s n k = true := inAt_iff.2 ⟨i, x, hx, h1, by omega, by omega⟩
        rw [this] at h'; cases h'
  have c2 : p.length ≤ i := by
    rcases Nat.lt_or_ge i p.length with h | h
    · rcases hout with h' | h'
      · omega
      · have : inAt s n (p.length - 1) = true := inAt_iff.2 ⟨i, x, hx, h1, by omega, by omega⟩
        rw [this] at h'; cases h'
    · exact h
  have hm : m[i - p.length]? = some x := by
    have : (s.take k)[i]? = some x := by rw [List.getElem?_take, if_pos c1, hx]
    rw [e, List.getElem?_append_right c2] at this
    exact this
  unfold hasChange
  rw [List.any_eq_true]
  exact ⟨x, List.mem_of_getElem? hm, by simpa using h1⟩

theorem cut_inv {s : List Mark} {n : Int} (hn : 0 ≤ n) : ∀ k, k ≤ s.length →
    (wasIn s n k = false → Pcs true (s.take k) (cutTo s n k)) ∧ (wasIn s n k = true → ∃ p m l, PieceOpen s n k p m l) := by
  intro k
  induction k with
  | zero =>
    intro _
    refine ⟨fun _ => ?_, fun h => ?_⟩
    · rw [List.take_zero]; exact Pcs.nil
    · rw [wasIn_zero] at h; cases h
  | succ k ih =>
    intro hk
    obtain ⟨i1, i2⟩ := ih (by omega)
    have hx : s[k]? = some s[k] := by simp
    have ht := take_snoc' hx
    refine ⟨fun h => ?_, fun h => ?_⟩
    · rw [wasIn_succ] at h
      have hs := change_in hn hx h
      rw [ht, cutTo_out hx h]
      by_cases hw : wasIn s n k = true
      · obtain ⟨p, m, l, ho⟩ := i2 hw
        have hc := ho.change hn (by omega) (.inr h)
        rw [ho.eq, ho.cut]
        exact (Pcs.hunk m ho.pcs hc).keep hs
      · exact (i1 (by simpa using hw)).keep hs
    · rw [wasIn_succ] at h
      by_cases hw : wasIn s n k = true
      · obtain ⟨p, m, l, ho⟩ := i2 hw
        refine ⟨p, m ++ [s[k]], l, ?_, ho.pcs, ?_, by have := ho.lt; omega, ?_, ho.out⟩
        · rw [ht, ho.eq, List.append_assoc]
        · rw [cutTo_more hx h hw ho.cut]
        · intro j h1 h2
          rcases Nat.lt_or_ge j k with h3 | h3
          · exact ho.inn j h1 h3
          · obtain rfl : j = k := by omega
            exact h
      · have hw' : wasIn s n k = false := by simpa using hw
        have hl : (s.take k).length = k := by rw [List.length_take]; omega
        refine ⟨s.take k, [s[k]], cutTo s n k, ht, i1 hw', cutTo_new hx h hw', by omega, ?_, ?_⟩
        · intro j h1 h2
          obtain rfl : j = k := by omega
          exact h
        · rw [hl]
          unfold wasIn at hw'
          rcases Nat.eq_zero_or_pos k with h0 | h0
          · exact .inl h0
          · right
            simpa [h0] using hw'

theorem cut_pcs {s : List Mark} {n : Int} (hn : 0 ≤ n) : ∃ b, Pcs b s (cutOf s n) := by
  obtain ⟨i1, i2⟩ := cut_inv (s := s) hn s.length (Nat.le_refl _)
  unfold cutOf
  by_cases hw : wasIn s n s.length = true
  · obtain ⟨p, m, l, ho⟩ := i2 hw
    have hc := ho.change hn (Nat.le_refl _) (.inl rfl)
    have e := ho.eq
    rw [List.take_length] at e
    rw [ho.cut]
    refine ⟨false, ?_⟩
    conv => arg 2; rw [e]
    exact Pcs.hunk m ho.pcs hc
  · have := i1 (by simpa using hw)
    rw [List.take_length] at this
    exact ⟨true, this⟩

/-! ### sums over pieces -/
theorem oldN_append (p m : List Mark) : oldN (p ++ m) = oldN p + oldN m := by simp [oldN, those, List.filter_append]
theorem newN_append (p m : List Mark) : newN (p ++ m) = newN p + newN m := by simp [newN, those, List.filter_append]
theorem changes_append (p m : List Mark) : changes (p ++ m) = changes p + changes m := by simp [changes, List.filter_append]
theorem oldN_keep {m : Mark} (h : m.sign = 32) : oldN [m] = 1 := by simp [oldN, those, h]
theorem newN_keep {m : Mark} (h : m.sign = 32) : newN [m] = 1 := by simp [newN, those, h]
theorem changes_keep {m : Mark} (h : m.sign = 32) : changes [m] = 0 := by simp [changes, h]

def manyChanges (l : List Hunk) : Nat := (l.map fun h => changes h.marks).sum
theorem Pcs.many {b : Bool} {p : List Mark} {l : List Hunk} (h : Pcs b p l) : manyChanges l = changes p := by
  induction h with
  | nil => rfl
  | keep h hs ih => rw [changes_append, changes_keep hs, ih]; rfl
  | hunk m h hc ih => rw [changes_append, ← ih]; simp [manyChanges]
theorem sizes_changes {m : List Mark} (h : hasChange m = true) : 1 ≤ oldN m + newN m := by
  unfold hasChange at h
  rw [List.any_eq_true] at h
  obtain ⟨x, hx, _⟩ := h
  by_cases h43 : x.sign = 43
  · have : x.text ∈ those m 45 := by
      unfold those
      exact List.mem_map.2 ⟨x, List.mem_filter.2 ⟨hx, by simp [h43]⟩, rfl⟩
    have := List.length_pos_of_mem this
    unfold oldN newN; omega
  · have : x.text ∈ those m 43 := by
      unfold those
      exact List.mem_map.2 ⟨x, List.mem_filter.2 ⟨hx, by simp [h43]⟩, rfl⟩
    have := List.length_pos_of_mem this
    unfold oldN newN; omega
theorem Pcs.few {b : Bool} {p : List Mark} {l : List Hunk} (h : Pcs b p l) : 3 * l.length ≤ oldN p + newN p + (if b then 0 else 2) := by
  induction h with
  | nil => simp
  | keep h hs ih =>
    rw [oldN_append, newN_append, oldN_keep hs, newN_keep hs]
    simp only [if_true]
    split at ih <;> omega
  | hunk m h hc ih =>
    have := sizes_changes hc
    rw [oldN_append, newN_append, List.length_append]
    simp only [if_true, List.length_cons, List.length_nil] at ih ⊢
    simp
    omega

/-! ### hunks, one by one -/
def hOk : Int → Int → List Hunk → Prop
  | _, _, [] => True
  | fin, more, h :: r => oneFault h fin more = 0 ∧ hOk (h.old + oldN h.marks) (more + newN h.marks - oldN h.marks) r
def hFin : Int → Int → List Hunk → Int × Int
  | fin, more, [] => (fin, more)
  | _, more, h :: r => hFin (h.old + oldN h.marks) (more + newN h.marks - oldN h.marks) r
theorem hunksGo_ok : ∀ (l : List Hunk) (i : Nat) (fin more : Int), hOk fin more l → hunksGo i fin more l = (0, 0)
  | [], _, _, _, _ => rfl
  | h :: r, i, fin, more, hk => by
    rw [hunksGo, if_pos hk.1]
    exact hunksGo_ok r _ _ _ hk.2
theorem hunksGo_zero : ∀ (l : List Hunk) (i : Nat) (fin more : Int), (hunksGo i fin more l).2 = 0 → hOk fin more l
  | [], _, _, _, _ => trivial
  | h :: r, i, fin, more, hk => by
    rw [hunksGo] at hk
    by_cases h0 : oneFault h fin more = 0
    · rw [if_pos h0] at hk
      exact ⟨h0, hunksGo_zero r _ _ _ hk⟩
    · rw [if_neg h0] at hk
      exact absurd hk h0
theorem hunksFault_ok {l : List Hunk} (h : l.length ≤ 60) (hk : hOk 0 0 l) : hunksFault l = (0, 0) := by
  unfold hunksFault
  rw [if_neg (by omega), hunksGo_ok l _ _ _ hk]
theorem hunksFault_zero {l : List Hunk} (h : (hunksFault l).2 = 0) : l.length ≤ 60 ∧ hOk 0 0 l := by
  unfold hunksFault at h
  by_cases h1 : 60 < l.length
  · rw [if_pos h1] at h; simp at h
  · rw [if_neg h1] at h
    exact ⟨by omega, hunksGo_zero _ _ _ _ h⟩
theorem hunksFault_first {l : List Hunk} (h : (hunksFault l).2 = 0) : hunksFault l = (0, 0) := by
  obtain ⟨h1, h2⟩ := hunksFault_zero h
  exact hunksFault_ok h1 h2
theorem hOk_snoc : ∀ (l : List Hunk) (h : Hunk) (fin more : Int), hOk fin more l → oneFault h (hFin fin more l).1 (hFin fin more l).2 = 0 → hOk fin more (l ++ [h])
  | [], h, _, _, _, h2 => ⟨h2, trivial⟩
  | x :: r, h, fin, more, h1, h2 => ⟨h1.1, hOk_snoc r h _ _ h1.2 h2⟩
theorem hFin_snoc : ∀ (l : List Hunk) (h : Hunk) (fin more : Int), hFin fin more (l ++ [h]) = (h.old + oldN h.marks, (hFin fin more l).2 + newN h.marks - oldN h.marks)
  | [], h, fin, more => rfl
  | x :: r, h, fin, more => hFin_snoc r h _ _

theorem scriptFault_sub {s m : List Mark} (h : scriptFault s = 0) (hm : ∀ x ∈ m, x ∈ s) (hl : m.length ≤ s.length) : scriptFault m = 0 := by
  rw [scriptFault_zero] at h ⊢
  exact ⟨by omega, fun x hx => h.2 x (hm x hx)⟩
theorem oneFault_of {h : Hunk} {fin more : Int} (h1 : scriptFault h.marks = 0) (h2 : hasChange h.marks = true) (h3 : 0 ≤ h.old) (h4 : 0 ≤ h.new) (h5 : h.old + oldN h.marks ≤ 60) (h6 : h.new + newN h.marks ≤ 60) (h7 : fin ≤ h.old) (h8 : h.new = h.old + more) : oneFault h fin more = 0 := by
  unfold oneFault
  rw [if_neg (by simp [h1]), if_neg (by simp [h2]), if_neg (by omega), if_neg (by omega)]

theorem Pcs.ok {b : Bool} {p : List Mark} {l : List Hunk} (h : Pcs b p l) : scriptFault p = 0 → oldN p ≤ 60 → newN p ≤ 60 → hOk 0 0 l ∧ (hFin 0 0 l).1 ≤ oldN p ∧ (hFin 0 0 l).2 = (newN p : Int) - oldN p := by
  induction h with
  | nil => intro _ _ _; exact ⟨trivial, by simp [hFin], by simp [hFin, oldN, newN, those]⟩
  | @keep b p l m h hs ih =>
    intro s0 s1 s2
    rw [oldN_append, oldN_keep hs] at s1 ⊢
    rw [newN_append, newN_keep hs] at s2 ⊢
    obtain ⟨i1, i2, i3⟩ := ih (scriptFault_sub s0 (fun x hx => List.mem_append_left _ hx) (by simp)) (by omega) (by omega)
    exact ⟨i1, by omega, by omega⟩
  | @hunk p l m h hc ih =>
    intro s0 s1 s2
    rw [oldN_append] at s1 ⊢
    rw [newN_append] at s2 ⊢
    obtain ⟨i1, i2, i3⟩ := ih (scriptFault_sub s0 (fun x hx => List.mem_append_left _ hx) (by simp)) (by omega) (by omega)
    have hm := scriptFault_sub (m := m) s0 (fun x hx => List.mem_append_right _ hx) (by simp)
    rw [hFin_snoc]
    refine ⟨hOk_snoc _ _ _ _ i1 (oneFault_of hm hc ?_ ?_ ?_ ?_ ?_ ?_), ?_, ?_⟩
    all_goals simp only []
    all_goals omega

theorem cutFault_zero {s : List Mark} {n : Int} (h : cutFault s n = 0) : scriptFault s = 0 ∧ 0 ≤ n ∧ n ≤ 1000 ∧ oldN s ≤ 60 ∧ newN s ≤ 60 := by
  unfold cutFault at h
  by_cases h1 : scriptFault s ≠ 0
  · rw [if_pos h1] at h; exact absurd h h1
  · rw [if_neg h1] at h
    by_cases h2 : n < 0 ∨ 1000 < n
    · rw [if_pos h2] at h; simp at h
    · rw [if_neg h2] at h
      by_cases h3 : 60 < oldN s ∨ 60 < newN s
      · rw [if_pos h3] at h; simp at h
      · exact ⟨by simpa using h1, by omega, by omega, by omega, by omega⟩
theorem cutFault_of {s : List Mark} {n m : Int} (h : cutFault s n = 0) (h0 : 0 ≤ m) (h1 : m ≤ 1000) : cutFault s m = 0 := by
  obtain ⟨a, _, _, b, c⟩ := cutFault_zero h
  unfold cutFault
  rw [if_neg (by simp [a]), if_neg (by omega), if_neg (by omega)]
theorem cut_ok {s : List Mark} {n : Int} (h : cutFault s n = 0) : hunksFault (cutOf s n) = (0, 0) := by
  obtain ⟨h1, h2, h3, h4, h5⟩ := cutFault_zero h
  obtain ⟨b, hp⟩ := cut_pcs (s := s) h2
  obtain ⟨k1, _, _⟩ := hp.ok h1 h4 h5
  refine hunksFault_ok ?_ k1
  have := hp.few
  split at this <;> omega
theorem cut_many {s : List Mark} {n : Int} (h : 0 ≤ n) : manyChanges (cutOf s n) = changes s := by
  obtain ⟨b, hp⟩ := cut_pcs (s := s) h
  exact hp.many

/-! ### turned -/
theorem turnMark_turnMark (m : Mark) : turnMark (turnMark m) = m := by
  obtain ⟨sg, tx⟩ := m
  simp only [turnMark, Mark.mk.injEq, and_true]
  by_cases h1 : sg = 45
  · simp [h1]
  · by_cases h2 : sg = 43
    · simp [h2]
    · simp [h1, h2]
theorem turnHunk_turnHunk (h : Hunk) : turnHunk (turnHunk h) = h := by
  obtain ⟨o, n, l⟩ := h
  simp only [turnHunk, List.map_map, Hunk.mk.injEq, true_and]
  rw [show turnMark ∘ turnMark = id from funext turnMark_turnMark]
  simp
def turnHunks (l : List Hunk) : List Hunk := l.map turnHunk
theorem turn_turn (l : List Hunk) : turnHunks (turnHunks l) = l := by
  unfold turnHunks
  rw [List.map_map, show turnHunk ∘ turnHunk = id from funext turnHunk_turnHunk]
  simp
theorem turnMark_43 (m : Mark) : (turnMark m).sign = 43 ↔ m.sign = 45 := by
  unfold turnMark
  by_cases h1 : m.sign = 45
  · simp [h1]
  · by_cases h2 : m.sign = 43
    · simp [h2]
    · simp [h1, h2]
theorem turnMark_45 (m : Mark) : (turnMark m).sign = 45 ↔ m.sign = 43 := by
  unfold turnMark
  by_cases h1 : m.sign = 45
  · simp [h1]
  · by_cases h2 : m.sign = 43
    · simp [h2]
    · simp [h1, h2]
theorem turnMark_32 (m : Mark) : (turnMark m).sign = 32 ↔ m.sign = 32 := by
  unfold turnMark
  by_cases h1 : m.sign = 45
  · simp [h1]
  · by_cases h2 : m.sign = 43
    · simp [h2]
    · simp [h1, h2]
theorem those_turn (l : List Mark) : those (l.map turnMark) 43 = those l 45 ∧ those (l.map turnMark) 45 = those l 43 := by
  unfold those
  constructor
  · rw [List.filter_map, List.map_map]
    have e1 : ((fun m : Mark => decide (m.sign ≠ 43)) ∘ turnMark) = fun m => decide (m.sign ≠ 45) := by
      funext m; simp [turnMark_43]
    rw [e1]; rfl
  · rw [List.filter_map, List.map_map]
    have e1 : ((fun m : Mark => decide (m.sign ≠ 45)) ∘ turnMark) = fun m => decide (m.sign ≠ 43) := by
      funext m; simp [turnMark_45]
    rw [e1]; rfl
theorem oldN_turn (l : List Mark) : oldN (l.map turnMark) = newN l := by unfold oldN newN; rw [(those_turn l).1]
theorem newN_turn (l : List Mark) : newN (l.map turnMark) = oldN l := by unfold oldN newN; rw [(those_turn l).2]
theorem markFault_turn (m : Mark) : markFault (turnMark m) = markFault m := by
  unfold markFault
  have e : ((turnMark m).sign ≠ 32 ∧ (turnMark m).sign ≠ 45 ∧ (turnMark m).sign ≠ 43) = (m.sign ≠ 32 ∧ m.sign ≠ 45 ∧ m.sign ≠ 43) := by
    simp only [ne_eq, turnMark_32, turnMark_43, turnMark_45, eq_iff_iff]
    constructor <;> (rintro ⟨a, b, c⟩; exact ⟨a, c, b⟩)
  simp only [e]
  rfl
theorem scriptFault_turn {l : List Mark} (h : scriptFault l = 0) : scriptFault (l.map turnMark) = 0 := by
  rw [scriptFault_zero] at h ⊢
  refine ⟨by simpa using h.1, ?_⟩
  intro x hx
  obtain ⟨y, hy, rfl⟩ := List.mem_map.1 hx
  rw [markFault_turn]
  exact h.2 y hy
theorem hasChange_turn (l : List Mark) : hasChange (l.map turnMark) = hasChange l := by
  unfold hasChange
  rw [List.any_map]
  congr 1
  funext m
  simp [turnMark_32]
theorem oneFault_turn {h : Hunk} {fin more : Int} (e : oneFault h fin more = 0) : oneFault (turnHunk h) (fin + more) (-more) = 0 := by
  obtain ⟨e1, e2, e3, e4, e5, e6, e7, e8⟩ := oneFault_zero e
  refine oneFault_of (scriptFault_turn e1) ?_ ?_ ?_ ?_ ?_ ?_ ?_
  · simp only [turnHunk]; rw [hasChange_turn]; exact e2
  all_goals simp only [turnHunk, oldN_turn, newN_turn]
  all_goals omega
theorem hOk_turn : ∀ (l : List Hunk) (fin more : Int), hOk fin more l → hOk (fin + more) (-more) (turnHunks l)
  | [], _, _, _ => trivial
  | h :: r, fin, more, hk => by
    refine ⟨oneFault_turn hk.1, ?_⟩
    obtain ⟨_, _, _, _, _, _, _, e8⟩ := oneFault_zero hk.1
    have := hOk_turn r _ _ hk.2
    have e1 : (turnHunk h).old + oldN (turnHunk h).marks = (h.old + oldN h.marks) + (more + newN h.marks - oldN h.marks) := by
      simp only [turnHunk, oldN_turn]; omega
    have e2 : -more + (newN (turnHunk h).marks : Int) - oldN (turnHunk h).marks = -(more + newN h.marks - oldN h.marks) := by
      simp only [turnHunk, oldN_turn, newN_turn]; omega
    rw [e1, e2]
    exact this
theorem turn_ok {l : List Hunk} (h : hunksFault l = (0, 0)) : hunksFault (turnHunks l) = (0, 0) := by
  obtain ⟨h1, h2⟩ := hunksFault_zero (by rw [h])
  refine hunksFault_ok (by simpa [turnHunks] using h1) ?_
  simpa using hOk_turn l 0 0 h2

/-! ### of a great context one piece -/
theorem cut_none {s : List Mark} {n : Int} (h : ∀ k, inAt s n k = false) : ∀ k, k ≤ s.length → cutTo s n k = [] := by
  intro k
  induction k with
  | zero => intro _; rfl
  | succ k ih =>
    intro hk
    have hx : s[k]? = some s[k] := by simp
    rw [cutTo_out hx (h k), ih (by omega)]
theorem cut_whole {s : List Mark} {n : Int} (h : ∀ k, k < s.length → inAt s n k = true) : ∀ k, k < s.length → cutTo s n (k + 1) = [⟨0, 0, s.take (k + 1)⟩] := by
  intro k
  induction k with
  | zero =>
    intro hk
    have hx : s[0]? = some s[0] := by simp
    rw [cutTo_new hx (h 0 hk) rfl, take_snoc' hx]
    rfl
  | succ k ih =>
    intro hk
    have hx : s[k + 1]? = some s[k + 1] := by simp
    rw [cutTo_more (l := []) hx (h _ hk) (by rw [wasIn_succ]; exact h k (by omega)) (ih (by omega)), take_snoc' hx]
    rfl
theorem changes_zero {s : List Mark} (h : changes s = 0) : ∀ x ∈ s, x.sign = 32 := by
  intro x hx
  unfold changes at h
  have := List.filter_eq_nil_iff.1 (List.eq_nil_of_length_eq_zero h) x hx
  simpa using this
theorem cut_200 {s : List Mark} (h : s.length ≤ 120) : cutOf s 200 = if changes s = 0 then [] else [⟨0, 0, s⟩] := by
  by_cases h0 : changes s = 0
  · rw [if_pos h0]
    have hz := changes_zero h0
    refine cut_none (fun k => ?_) _ (Nat.le_refl _)
    by_cases hk : inAt s 200 k = true
    · obtain ⟨i, x, hx, h1, _⟩ := inAt_iff.1 hk
      exact absurd (hz x (List.mem_of_getElem? hx)) h1
    · simpa using hk
  · rw [if_neg h0]
    obtain ⟨x, hx, hs⟩ : ∃ x ∈ s, x.sign ≠ 32 := by
      have : (s.filter fun m => decide (m.sign ≠ 32)) ≠ [] := fun e => h0 (by unfold changes; rw [e]; rfl)
      obtain ⟨x, hx⟩ := List.exists_mem_of_ne_nil _ this
      rw [List.mem_filter] at hx
      exact ⟨x, hx.1, by simpa using hx.2⟩
    obtain ⟨i, hi⟩ := List.getElem?_of_mem hx
    have hil := (List.getElem?_eq_some_iff.1 hi).1
    have hall : ∀ k, k < s.length → inAt s 200 k = true := fun k hk => inAt_iff.2 ⟨i, x, hi, hs, by omega, by omega⟩
    have := cut_whole hall (s.length - 1) (by omega)
    unfold cutOf
    rw [show s.length - 1 + 1 = s.length by omega, List.take_length] at this
    exact this

/-! ### with more context no more pieces -/
theorem inAt_mono {s : List Mark} {n m : Int} (h : n ≤ m) {k : Nat} (hk : inAt s n k = true) : inAt s m k = true := by
  obtain ⟨i, x, hx, h1, h2, h3⟩ := inAt_iff.1 hk
  exact inAt_iff.2 ⟨i, x, hx, h1, by omega, by omega⟩
theorem cutLen_out {s : List Mark} {n : Int} {k : Nat} (hk : k < s.length) (h : inAt s n k = false) : (cutTo s n (k + 1)).length = (cutTo s n k).length := by
  have hx : s[k]? = some s[k] := by simp [hk]
  rw [cutTo_out hx h]
theorem cutLen_new {s : List Mark} {n : Int} {k : Nat} (hk : k < s.length) (h : inAt s n k = true) (h' : wasIn s n k = false) : (cutTo s n (k + 1)).length = (cutTo s n k).length + 1 := by
  have hx : s[k]? = some s[k] := by simp [hk]
  rw [cutTo_new hx h h']; simp
theorem cutLen_more {s : List Mark} {n : Int} (hn : 0 ≤ n) {k : Nat} (hk : k < s.length) (h : inAt s n k = true) (h' : wasIn s n k = true) : (cutTo s n (k + 1)).length = (cutTo s n k).length := by
  have hx : s[k]? = some s[k] := by simp [hk]
  obtain ⟨p, m, l, ho⟩ := (cut_inv hn k (by omega)).2 h'
  rw [cutTo_more hx h h' ho.cut, ho.cut]; simp
theorem cut_fewer {s : List Mark} {n m : Int} (hn : 0 ≤ n) (h : n ≤ m) : ∀ k, k ≤ s.length →
    (cutTo s m k).length ≤ (cutTo s n k).length ∨
    ((cutTo s m k).length ≤ (cutTo s n k).length + 1 ∧ ∃ st, st < k ∧ (∀ j, st ≤ j → j < k → inAt s m j = true ∧ inAt s n j = false) ∧ (st = 0 ∨ inAt s m (st - 1) = false)) := by
  intro k
  induction k with
  | zero => intro _; exact .inl (Nat.le_refl _)
  | succ k ih =>
    intro hk
    have hlt : k < s.length := by omega
    have hm0 : 0 ≤ m := by omega
    have ihk := ih (by omega)
    by_cases hm : inAt s m k = true
    · by_cases hn' : inAt s n k = true
      · -- both
        by_cases wm : wasIn s m k = true
        · have e1 := cutLen_more hm0 hlt hm wm
          by_cases wn : wasIn s n k = true
          · have e2 := cutLen_more hn hlt hn' wn
            rcases ihk with h1 | ⟨h1, st, h2, h3, h4⟩
            · left; omega
            · exfalso
              have := (h3 (k - 1) (by omega) (by omega)).2
              unfold wasIn at wn
              rw [this] at wn
              simp at wn
          · have e2 := cutLen_new hlt hn' (by simpa using wn)
            rcases ihk with h1 | ⟨h1, _⟩
            · left; omega
            · left; omega
        · have wm' : wasIn s m k = false := by simpa using wm
          have e1 := cutLen_new hlt hm wm'
          have wn' : wasIn s n k = false := by
            unfold wasIn at wm' ⊢
            by_cases h0 : 0 < k
            · simp only [h0, decide_true, Bool.true_and] at wm' ⊢
              by_cases hh : inAt s n (k - 1) = true
              · rw [inAt_mono h hh] at wm'; cases wm'
              · simpa using hh
            · simp [h0]
          have e2 := cutLen_new hlt hn' wn'
          rcases ihk with h1 | ⟨h1, st, h2, h3, h4⟩
          · left; omega
          · exfalso
            have := (h3 (k - 1) (by omega) (by omega)).1
            unfold wasIn at wm'
            rw [this] at wm'
            simp at wm'
            omega
      · have hn'' : inAt s n k = false := by simpa using hn'
        have e2 := cutLen_out hlt hn''
        by_cases wm : wasIn s m k = true
        · have e1 := cutLen_more hm0 hlt hm wm
          rcases ihk with h1 | ⟨h1, st, h2, h3, h4⟩
          · left; omega
          · right
            refine ⟨by omega, st, by omega, ?_, h4⟩
            intro j a b
            rcases Nat.lt_or_ge j k with c | c
            · exact h3 j a c
            · obtain rfl : j = k := by omega
              exact ⟨hm, hn''⟩
        · have wm' : wasIn s m k = false := by simpa using wm
          have e1 := cutLen_new hlt hm wm'
          rcases ihk with h1 | ⟨h1, st, h2, h3, h4⟩
          · right
            refine ⟨by omega, k, by omega, ?_, ?_⟩
            · intro j a b
              obtain rfl : j = k := by omega
              exact ⟨hm, hn''⟩
            · unfold wasIn at wm'
              rcases Nat.eq_zero_or_pos k with h0 | h0
              · exact .inl h0
              · right; simpa [h0] using wm'
          · exfalso
            have := (h3 (k - 1) (by omega) (by omega)).1
            unfold wasIn at wm'
            rw [this] at wm'
            simp at wm'
            omega
    · have hm' : inAt s m k = false := by simpa using hm
      have hn' : inAt s n k = false := by
        by_cases hh : inAt s n k = true
        · rw [inAt_mono h hh] at hm'; cases hm'
        · simpa using hh
      have e1 := cutLen_out hlt hm'
      have e2 := cutLen_out hlt hn'
      rcases ihk with h1 | ⟨h1, st, h2, h3, h4⟩
      · left; omega
      · exfalso
        obtain ⟨i, x, hx, c1, c2, c3⟩ := inAt_iff.1 (h3 (k - 1) (by omega) (by omega)).1
        rcases Nat.lt_or_ge i k with d1 | d1
        · rcases Nat.lt_or_ge i st with d2 | d2
          · rcases h4 with h4 | h4
            · omega
            · have : inAt s m (st - 1) = true := inAt_iff.2 ⟨i, x, hx, c1, by omega, by omega⟩
              rw [this] at h4; cases h4
          · have := (h3 i d2 d1).2
            have h5 : inAt s n i = true := inAt_iff.2 ⟨i, x, hx, c1, by omega, by omega⟩
            rw [this] at h5; cases h5
        · have : inAt s m k = true := inAt_iff.2 ⟨i, x, hx, c1, by omega, by omega⟩
          rw [this] at hm'; cases hm'
theorem cut_mono {s : List Mark} {n m : Int} (hn : 0 ≤ n) (h : n ≤ m) : (cutOf s m).length ≤ (cutOf s n).length := by
  unfold cutOf
  rcases cut_fewer (s := s) hn h s.length (Nat.le_refl _) with h1 | ⟨h1, st, h2, h3, h4⟩
  · exact h1
  · exfalso
    obtain ⟨i, x, hx, c1, c2, c3⟩ := inAt_iff.1 (h3 (s.length - 1) (by omega) (by omega)).1
    have hi := (List.getElem?_eq_some_iff.1 hx).1
    rcases Nat.lt_or_ge i st with d2 | d2
    · rcases h4 with h4 | h4
      · omega
      · have : inAt s m (st - 1) = true := inAt_iff.2 ⟨i, x, hx, c1, by omega, by omega⟩
        rw [this] at h4; cases h4
    · have := (h3 i d2 hi).2
      have h5 : inAt s n i = true := inAt_iff.2 ⟨i, x, hx, c1, by omega, by omega⟩
      rw [this] at h5; cases h5
end Go.Proofs.YtnekhaacapdmfaaDoor
namespace Go.Proofs.YtnekhaacapdmfaaDoor
open Go.RowKit

theorem elemOk_hunk : ElemOk Tryd.prog 41 46 3 := elemOk_of Tryd.underlying41 (z := .agg #[.int .i64 0, .int .i64 0, .slice none 0 0]) (b := 40) (by kernel_rfl) rfl (by decide)

/-- 'append(v, y)' at a step of a region that draws: y's cells have just been laid in a block of their own -/
theorem step_push {P : Program} {ops : Array Oper} {o : Oper} {a : Act} {K : Act → World → Prop} {Q : Exit → Act → World → Prop} {E : Prop} (hgd : o.guard = none) (s x : Operand) (t : TypeId)
    (ho : o.op = .call { callee := .builtin .append, args := #[s, x], argTypes := #[t, t] }) {α : Type} [Dat α] {e : TypeId} (hP : ElemOk P t e (Dat.n α)) {w0 : World} {O : Nat → Prop} {v : Value} {l : List α} {y : α} {es : List Value} {E' : TypeId} {B : Nat}
    (hs : a.eval s = v) (hx : a.eval x = .slice (some ⟨B, 0, none⟩) 1 1) (hB : B = w0.heap.size)
    (hown : Own e w0 O v l) (hy : Dat.rd w0 (fun k => O k ∨ v.ownBlock = some k) es y) (hO : ∀ k, O k → k < w0.heap.size) (hlen : l.length ≤ 1000000000)
    (h : ∀ v' w', Own e w' O v' (l ++ [y]) → Chg (OwnB v) w0 w' → (∃ k, v'.ownBlock = some k ∧ (v.ownBlock = some k ∨ w0.heap.size ≤ k)) → K (a.put o.dst v') w') :
    if Region.wanted o (yielded ops a.tmps) = true then Oper.wp P o a (w0.alloc (.cells es.toArray E')) K Q else E := by
  have hw : Region.wanted o (yielded ops a.tmps) = true := by simp [Region.wanted, hgd]
  rw [if_pos hw]
  subst hB
  obtain ⟨v', w', hrun, h1, h2, h3⟩ := run_push (ty := o.type) hP E' hown hy hO hlen
  unfold Oper.wp execOp
  simp only [ho, resolve, invoke, builtin, Sem.run_bind, Sem.run_pure, Result.andThen_ok, List.map_toArray, List.map_cons, List.map_nil, hs, hx, hrun]
  exact h v' w' h1 h2 h3

theorem cutTo_len {s : List Mark} {n : Int} (hn : 0 ≤ n) : ∀ k, k ≤ s.length → (cutTo s n k).length ≤ k := by
  intro k
  induction k with
  | zero => intro _; exact Nat.le_refl _
  | succ k ih =>
    intro hk
    have := ih (by omega)
    by_cases h1 : inAt s n k = true
    · by_cases h2 : wasIn s n k = true
      · rw [cutLen_more hn (by omega) h1 h2]; omega
      · rw [cutLen_new (by omega) h1 (by simpa using h2)]; omega
    · rw [cutLen_out (by omega) (by simpa using h1)]; omega

theorem own_slice {v : Value} {p : Nat → Prop} (h : ∃ k, v.ownBlock = some k ∧ p k) : ∃ a n c, v = .slice (some a) n c := by
  obtain ⟨k, hk, _⟩ := h
  unfold Value.ownBlock at hk
  split at hk
  · exact ⟨_, _, _, rfl⟩
  · cases hk

theorem ifn_true {a k : Int} (h : (a != k) = true) : (if a = k then (0 : Nat) else 1) = 1 := if_neg (by simpa using h)
theorem ifn_false {a k : Int} (h : (a != k) = false) : (if a = k then (0 : Nat) else 1) = 0 := if_pos (by simpa using h)

/-- the hunks so far -/
def CutOwn (w : World) (O : Nat → Prop) (v : Value) (l : List Hunk) (was : Bool) : Prop :=
  if was = true then ∃ init h mv xs, l = init ++ [h] ∧ OwnLast 46 100 w O v init h mv xs else Own 46 w O v l
theorem CutOwn.own {w : World} {O : Nat → Prop} {v : Value} {l : List Hunk} {was : Bool} (h : CutOwn w O v l was) : Own 46 w O v l := by
  unfold CutOwn at h
  split at h
  · obtain ⟨init, q, mv, xs, rfl, hl⟩ := h
    exact hl.own
  · exact h


theorem cut_marks {s : List Mark} {n : Int} (hn : 0 ≤ n) {k : Nat} (hk : k ≤ s.length) (hw : wasIn s n k = true) {init : List Hunk} {q : Hunk} (e : cutTo s n k = init ++ [q]) : q.marks.length ≤ k := by
  obtain ⟨p, m, l, ho⟩ := (cut_inv hn k hk).2 hw
  have h1 := ho.eq
  have h2 := ho.cut
  rw [e] at h2
  have h3 := (List.append_inj' h2 rfl).2
  simp only [List.cons.injEq, and_true] at h3
  subst h3
  have : (s.take k).length = (p ++ m).length := by rw [h1]
  rw [List.length_take, List.length_append] at this
  simp only
  omega

end Go.Proofs.YtnekhaacapdmfaaDoor
