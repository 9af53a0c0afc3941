/-
  PARTS: HUNKS AS TEXTS, in plain Lean (chapter 5): whole texts. What is printed is read; what is read is printed so; cut off within the last line it is none.; PATCHES AS TEXTS, in plain Lean (chapter 8): lines written and read.; TREES, in plain Lean (chapter 2): files by path, in order.; TREES BY WHAT IS LOOKED UP IN THEM, in plain Lean: what put and drop do to each path; two trees in which each path reads the same are the same.; PIECES OF A SCRIPT, in plain Lean (chapter 3, H2): what Cut answers.; WHAT LIES BETWEEN TWO TREES, in plain Lean: file by file of two sorted lists; the document's way by all paths of both is the same.; THE LAWS OF THE DISTANCE AND OF THE SCRIPT, in plain Lean (chapter 2, E2): symmetric, a triangle, 0 just of the same, attained by the script, no script is shorter.; THE WALKS OF LAYER 2: checked, measure, Far.; A SLICE THAT THE CALL ITSELF BUILDS BY append ('Own'): kept, pushed onto, read. No program in sight.; THE WALKS OF LAYER 2 over scripts: Check, those, Old, New; the laws' changes and Marks.
-/
import Derived.Test.YtjiaidchcldocaaGreatDoorPa1
import Derived.Lib.Bytealg
import GoSem.Op.String
import Derived.StillTailTactics
set_option linter.unusedVariables false
set_option linter.unusedSimpArgs false
namespace Go.Proofs.YtjiaidchcldocaaGreatDoor

theorem parts_text : ∀ (ls : List (List UInt8)) (r : List UInt8), (∀ x ∈ ls, ∀ c ∈ x, c ≠ 10) → parts 10 (textL ls ++ r) = ls ++ parts 10 r
  | [], _, _ => rfl
  | x :: ls, r, h => by
    have e : textL (x :: ls) ++ r = x ++ 10 :: (textL ls ++ r) := by
      show (x ++ [10] ++ textL ls) ++ r = _
      simp
    rw [e, parts_cut _ (h x (List.mem_cons_self ..)), parts_text ls r fun y hy => h y (List.mem_cons_of_mem _ hy)]
    rfl
/-! ### hunks that may be -/
theorem mark_ok {m : Mark} (h : markFault m = 0) : SignOk m ∧ (∀ c ∈ m.text.data.toList, c ≠ 10) ∧ m.text.size ≤ 80 := by
  unfold markFault at h
  by_cases hs : m.sign ≠ 32 ∧ m.sign ≠ 45 ∧ m.sign ≠ 43
  · rw [if_pos hs] at h; cases h
  · rw [if_neg hs] at h
    unfold lineFault at h
    cases hn : hasNl m.text with
    | true => rw [hn] at h; cases h
    | false =>
      rw [hn] at h
      refine ⟨?_, fun c hc e => ?_, ?_⟩
      · unfold SignOk
        by_cases h1 : m.sign = 32
        · exact .inl h1
        · by_cases h2 : m.sign = 45
          · exact .inr (.inl h2)
          · by_cases h3 : m.sign = 43
            · exact .inr (.inr h3)
            · exact absurd ⟨h1, h2, h3⟩ hs
      · subst e
        unfold hasNl at hn
        rw [List.contains_iff_mem.2 hc] at hn; cases hn
      · by_cases hz : 80 < m.text.size
        · rw [if_neg (by decide), if_pos hz] at h; cases h
        · omega
theorem marks_ok {ms : List Mark} (h : scriptFault ms = 0) : ∀ m ∈ ms, markFault m = 0 := by
  unfold scriptFault at h
  by_cases hl : 120 < ms.length
  · rw [if_pos hl] at h; cases h
  · rw [if_neg hl] at h
    exact (firstOf_zero markFault ms).1 h
theorem one_ok {h : Hunk} {fin more : Int} (e : oneFault h fin more = 0) : (∀ m ∈ h.marks, markFault m = 0) ∧ 0 ≤ h.old ∧ 0 ≤ h.new ∧ h.old + oldN h.marks ≤ 60 ∧ h.new + newN h.marks ≤ 60 ∧ fin ≤ h.old ∧ h.new = h.old + more := by
  unfold oneFault at e
  by_cases h1 : scriptFault h.marks ≠ 0
  · rw [if_pos h1] at e; exact absurd e h1
  · rw [if_neg h1] at e
    by_cases h2 : hasChange h.marks = false
    · rw [if_pos h2] at e; cases e
    · rw [if_neg h2] at e
      by_cases h3 : h.old < 0 ∨ 60 < h.old ∨ h.new < 0 ∨ 60 < h.new ∨ 60 < h.old + oldN h.marks ∨ 60 < h.new + newN h.marks
      · rw [if_pos h3] at e; cases e
      · rw [if_neg h3] at e
        by_cases h4 : h.old < fin ∨ h.new ≠ h.old + more
        · rw [if_pos h4] at e; cases e
        · refine ⟨marks_ok (by simpa using h1), ?_, ?_, ?_, ?_, ?_, ?_⟩ <;> omega
theorem one_head {h : Hunk} {fin more : Int} (e : oneFault h fin more = 0) : HeadOk h := by
  obtain ⟨q1, q2, q3, q4, q5, _⟩ := one_ok e
  exact ⟨q2, by omega, q3, by omega, by omega, by omega, fun m hm => (mark_ok (q1 m hm)).1⟩
theorem dec_len {n : Nat} (h : n < 1000) : (Lib.decDigits n).length ≤ 3 := by rw [digits_three h]; exact dec3_len n h
theorem span_len {a : Int} {m : Nat} (h0 : 0 ≤ a) (h1 : a < 999) (hm : m < 1000) : (spanL a m).length ≤ 7 := by
  obtain ⟨x, hx, hx3⟩ : ∃ x : Nat, (if 0 < m then a + 1 else a) = (x : Int) ∧ x < 1000 := ⟨(if 0 < m then a + 1 else a).toNat, by split <;> omega, by split <;> omega⟩
  unfold spanL
  rw [hx, itoa_nat, itoa_nat, List.length_append, List.length_append]
  have := dec_len hx3
  have := dec_len hm
  simp only [List.length_singleton]
  omega
theorem head_len {h : Hunk} (hh : HeadOk h) : (headL h.old (oldN h.marks) h.new (newN h.marks)).length ≤ 23 := by
  obtain ⟨h1, h2, h3, h4, h5, h6, _⟩ := hh
  have := span_len h1 h2 h5
  have := span_len h3 h4 h6
  unfold headL atAt endAt
  simp only [List.length_append, List.length_cons, List.length_nil]
  omega
theorem marks_len : ∀ (ms : List Mark), (∀ m ∈ ms, markFault m = 0) → (textL (ms.map markL)).length ≤ 82 * (oldN ms + newN ms)
  | [], _ => by simp [textL]
  | m :: ms, h => by
    have ih := marks_len ms fun k hk => h k (List.mem_cons_of_mem _ hk)
    obtain ⟨q1, _, q3⟩ := mark_ok (h m (List.mem_cons_self ..))
    have e : (textL ((m :: ms).map markL)).length = m.text.size + 2 + (textL (ms.map markL)).length := by
      show (markL m ++ [10] ++ textL (ms.map markL)).length = _
      unfold markL
      simp only [List.length_append, List.length_cons, List.length_nil, Array.length_toList, ByteArray.size_data]
    rw [e, oldN_cons, newN_cons]
    have : 1 ≤ (if m.sign ≠ 43 then 1 else 0) + (if m.sign ≠ 45 then 1 else 0) := by
      rcases q1 with q | q | q <;> rw [q] <;> decide
    omega
theorem textL_app (a b : List (List UInt8)) : textL (a ++ b) = textL a ++ textL b := by unfold textL; rw [List.map_append, List.flatten_append]
theorem hunk_len {h : Hunk} {fin more : Int} (e : oneFault h fin more = 0) : (textL (hunkL h)).length ≤ 24 + 82 * (oldN h.marks + newN h.marks) := by
  have h1 := head_len (one_head e)
  have h2 := marks_len h.marks (one_ok e).1
  have : (textL (hunkL h)).length = (headL h.old (oldN h.marks) h.new (newN h.marks)).length + 1 + (textL (h.marks.map markL)).length := by
    show (headL h.old (oldN h.marks) h.new (newN h.marks) ++ [10] ++ textL (h.marks.map markL)).length = _
    simp only [List.length_append, List.length_singleton]
  omega
theorem go_ok : ∀ (l : List Hunk) (i : Nat) (fin more : Int), fin ≤ 60 → fin + more ≤ 60 → (hunksGo i fin more l).2 = 0 →
    (∀ h ∈ l, HeadOk h) ∧ (∀ x ∈ linesU l, ∀ c ∈ x, c ≠ 10) ∧ ((textL (linesU l)).length : Int) ≤ 24 * l.length + 82 * ((60 - fin) + (60 - fin - more))
  | [], _, fin, more, h1, h2, _ => ⟨fun _ h => (by cases h), fun _ h => (by cases h), by show (0 : Int) ≤ 24 * 0 + _; omega⟩
  | h :: l, i, fin, more, h1, h2, e => by
    rw [hunksGo] at e
    by_cases h0 : oneFault h fin more = 0
    · rw [if_pos h0] at e
      obtain ⟨q1, q2, q3, q4, q5, q6, q7⟩ := one_ok h0
      obtain ⟨i1, i2, i3⟩ := go_ok l (i + 1) (h.old + oldN h.marks) (more + newN h.marks - oldN h.marks) (by omega) (by omega) e
      have hl := hunk_len h0
      have eu : linesU (h :: l) = hunkL h ++ linesU l := rfl
      refine ⟨fun k hk => ?_, fun x hx c hc => ?_, ?_⟩
      · rcases List.mem_cons.1 hk with rfl | hk
        · exact one_head h0
        · exact i1 k hk
      · rw [eu] at hx
        rcases List.mem_append.1 hx with hx | hx
        · obtain ⟨a1, a2, a3, a4, a5, a6, a7⟩ := one_head h0
          rcases List.mem_cons.1 hx with rfl | hx
          · have dig : ∀ {a : Int} {m : Nat}, 0 ≤ a → a < 999 → m < 1000 → ∀ d ∈ spanL a m, d ≠ 10 := fun b0 b1 b2 d hd e => by
              have := span_chars b0 b1 b2 hd
              rw [e] at this
              exact absurd this (by decide)
            unfold headL atAt endAt at hc
            intro e
            rcases List.mem_append.1 hc with hc | hc
            · rw [e] at hc; exact absurd hc (by decide)
            · rcases List.mem_append.1 hc with hc | hc
              · rcases List.mem_append.1 hc with hc | hc
                · rcases List.mem_append.1 hc with hc | hc
                  · exact dig a1 a2 a5 c hc e
                  · rw [e] at hc; exact absurd hc (by decide)
                · exact dig a3 a4 a6 c hc e
              · rw [e] at hc; exact absurd hc (by decide)
          · obtain ⟨m, hm, rfl⟩ := List.mem_map.1 hx
            obtain ⟨s1, s2, _⟩ := mark_ok (q1 m hm)
            rcases List.mem_cons.1 hc with rfl | hc
            · unfold signOf
              rcases s1 with s | s | s <;> rw [s] <;> decide
            · exact s2 c hc
        · exact i2 x hx c hc
      · rw [eu, textL_app, List.length_append, List.length_cons]
        omega
    · rw [if_neg h0] at e
      exact absurd e h0
theorem hunks_ok {l : List Hunk} (e : (hunksFault l).2 = 0) : (∀ h ∈ l, HeadOk h) ∧ (∀ x ∈ linesU l, ∀ c ∈ x, c ≠ 10) ∧ (textU l).length ≤ 400000 := by
  unfold hunksFault at e
  by_cases hl : 60 < l.length
  · rw [if_pos hl] at e; cases e
  · rw [if_neg hl] at e
    obtain ⟨h1, h2, h3⟩ := go_ok l 0 0 0 (by decide) (by decide) e
    refine ⟨h1, h2, ?_⟩
    show (textL (linesU l)).length ≤ _
    omega
end Go.Proofs.YtjiaidchcldocaaGreatDoor
namespace Go.Proofs.YtjiaidchcldocaaGreatDoor

def noneL : List UInt8 := [47, 100, 101, 118, 47, 110, 117, 108, 108]
def mmL : List UInt8 := [45, 45, 45, 32]
def ppL : List UInt8 := [43, 43, 43, 32]
def fromL (w : Int) (p : List UInt8) : List UInt8 := if w = 2 then noneL else [97, 47] ++ p
def toL (w : Int) (p : List UInt8) : List UInt8 := if w = 3 then noneL else [98, 47] ++ p
def changeL (c : Change) : List (List UInt8) := (mmL ++ fromL c.what c.path.data.toList) :: (ppL ++ toL c.what c.path.data.toList) :: linesU c.hunks
def linesG (p : List Change) : List (List UInt8) := p.flatMap changeL
/-- what two lines say -/
def headedR (a b : List UInt8) : Option (Int × List UInt8) := match dropPre [97, 47] a, dropPre [98, 47] b with
  | some f, some t => if f = t then some (1, f) else none
  | none, some t => if a = noneL then some (2, t) else none
  | some f, none => if b = noneL then some (3, f) else none
  | none, none => none
def headedL (a b : List UInt8) : Option (Int × List UInt8) := match dropPre mmL a, dropPre ppL b with
  | some a, some b => headedR a b
  | _, _ => none
theorem headed_back {w : Int} (p : List UInt8) (h : w = 1 ∨ w = 2 ∨ w = 3) : headedL (mmL ++ fromL w p) (ppL ++ toL w p) = some (w, p) := by
  unfold headedL
  rw [pre_app, pre_app]
  simp only
  unfold headedR
  rcases h with rfl | rfl | rfl
  · rw [show fromL 1 p = [97, 47] ++ p from rfl, show toL 1 p = [98, 47] ++ p from rfl, pre_app, pre_app]
    simp
  · rw [show fromL 2 p = noneL from rfl, show toL 2 p = [98, 47] ++ p from rfl, pre_app, show dropPre [97, 47] noneL = none from rfl]
    simp
  · rw [show fromL 3 p = [97, 47] ++ p from rfl, show toL 3 p = noneL from rfl, pre_app, show dropPre [98, 47] noneL = none from rfl]
    simp
theorem headed_some {a b p : List UInt8} {w : Int} (h : headedL a b = some (w, p)) : (w = 1 ∨ w = 2 ∨ w = 3) ∧ a = mmL ++ fromL w p ∧ b = ppL ++ toL w p := by
  unfold headedL at h
  cases ha : dropPre mmL a with
  | none => rw [ha] at h; cases h
  | some x =>
    cases hb : dropPre ppL b with
    | none => rw [ha, hb] at h; cases h
    | some y =>
      rw [ha, hb] at h
      simp only at h
      rw [pre_some ha, pre_some hb]
      unfold headedR at h
      cases hf : dropPre [97, 47] x with
      | none =>
        cases ht : dropPre [98, 47] y with
        | none => rw [hf, ht] at h; cases h
        | some t =>
          rw [hf, ht] at h
          simp only at h
          by_cases e : x = noneL
          · rw [if_pos e] at h
            injection h with h
            injection h with h1 h2
            subst h1; subst h2
            exact ⟨.inr (.inl rfl), by rw [e]; rfl, by rw [pre_some ht]; rfl⟩
          · rw [if_neg e] at h; cases h
      | some f =>
        cases ht : dropPre [98, 47] y with
        | none =>
          rw [hf, ht] at h
          simp only at h
          by_cases e : y = noneL
          · rw [if_pos e] at h
            injection h with h
            injection h with h1 h2
            subst h1; subst h2
            exact ⟨.inr (.inr rfl), by rw [pre_some hf]; rfl, by rw [e]; rfl⟩
          · rw [if_neg e] at h; cases h
        | some t =>
          rw [hf, ht] at h
          simp only at h
          by_cases e : f = t
          · rw [if_pos e] at h
            injection h with h
            injection h with h1 h2
            subst h1; subst h2
            exact ⟨.inl rfl, by rw [pre_some hf]; rfl, by rw [pre_some ht, e]; rfl⟩
          · rw [if_neg e] at h; cases h
def hunkHead (s : List UInt8) : Bool := [64, 64].isPrefixOf s
/-- hunks are read as long as there are some: these, the lines behind -/
def takeU : List (List UInt8) → List Hunk → Nat → Nat → Option (List Hunk × List (List UInt8))
  | [], hs, o, n => if 0 < o ∨ 0 < n then none else some (hs, [])
  | s :: r, hs, o, n => if (0 < o ∨ 0 < n) ∨ hunkHead s = true then match readLine hs o n s with
      | none => none
      | some (hs', o', n') => takeU r hs' o' n'
    else some (hs, s :: r)
def changesG : Nat → List (List UInt8) → Option (List Change)
  | _, [] => some []
  | 0, _ :: _ => none
  | _ + 1, [_] => none
  | k + 1, a :: b :: r => match headedL a b with
    | none => none
    | some (w, p) => match takeU r [] 0 0 with
      | none => none
      | some (hs, rest) => (changesG k rest).map fun q => ⟨w, toB p, hs⟩ :: q
theorem take_cons {s : List UInt8} {hs hs' : List Hunk} {o n o' n' : Nat} (h0 : (0 < o ∨ 0 < n) ∨ hunkHead s = true) (h : readLine hs o n s = some (hs', o', n')) (r : List (List UInt8)) : takeU (s :: r) hs o n = takeU r hs' o' n' := by
  rw [takeU, if_pos h0, h]
theorem take_marks (rest : List (List UInt8)) (hs : List Hunk) (a b : Int) : ∀ (ms done : List Mark) (o n : Nat), (∀ m ∈ ms, SignOk m) →
    takeU (ms.map markL ++ rest) (hs ++ [⟨a, b, done⟩]) (oldN ms + o) (newN ms + n) = takeU rest (hs ++ [⟨a, b, done ++ ms⟩]) o n
  | [], done, o, n, _ => by
    show takeU rest _ (0 + o) (0 + n) = _
    rw [Nat.zero_add, Nat.zero_add, List.append_nil]
  | m :: ms, done, o, n, h => by
    have h1 := h m (List.mem_cons_self ..)
    have hop : 0 < (if m.sign ≠ 43 then 1 else 0) + (oldN ms + o) ∨ 0 < (if m.sign ≠ 45 then 1 else 0) + (newN ms + n) := by
      rcases h1 with e | e | e <;> rw [e] <;> simp <;> omega
    rw [oldN_cons, newN_cons, Nat.add_assoc, Nat.add_assoc, List.map_cons, List.cons_append, take_cons (.inl hop) (read_mark h1 hs _), take_marks rest hs a b ms (done ++ [m]) o n (fun k hk => h k (List.mem_cons_of_mem _ hk)), List.append_assoc]
    rfl
theorem take_hunk {h : Hunk} (hh : HeadOk h) (rest : List (List UInt8)) (hs : List Hunk) : takeU (hunkL h ++ rest) hs 0 0 = takeU rest (hs ++ [h]) 0 0 := by
  obtain ⟨h1, h2, h3, h4, h5, h6, h7⟩ := hh
  unfold hunkL
  have e : readLine hs 0 0 (headL h.old (oldN h.marks) h.new (newN h.marks)) = some (hs ++ [⟨h.old, h.new, []⟩], oldN h.marks, newN h.marks) := by
    unfold readLine
    rw [if_neg (by omega), head_back h1 h2 h5 h3 h4 h6]
  rw [List.cons_append, take_cons (.inr rfl) e]
  have := take_marks rest hs h.old h.new h.marks [] 0 0 h7
  simp only [Nat.add_zero, List.nil_append] at this
  rw [this]
theorem take_hunks {rest : List (List UInt8)} (hr : ∀ s r, rest = s :: r → hunkHead s = false) : ∀ (l hs : List Hunk), (∀ h ∈ l, HeadOk h) → takeU (linesU l ++ rest) hs 0 0 = some (hs ++ l, rest)
  | [], hs, _ => by
    rw [List.append_nil]
    show takeU rest hs 0 0 = _
    cases rest with
    | nil => rw [takeU, if_neg (by omega)]
    | cons s r => rw [takeU, if_neg (by rw [hr s r rfl]; simp)]
  | h :: l, hs, hl => by
    have e : linesU (h :: l) = hunkL h ++ linesU l := rfl
    rw [e, List.append_assoc, take_hunk (hl h (List.mem_cons_self ..)), take_hunks hr l (hs ++ [h]) (fun k hk => hl k (List.mem_cons_of_mem _ hk)), List.append_assoc]
    rfl
/-- what is printed is read -/
theorem changes_back : ∀ (p : List Change) (k : Nat), (linesG p).length ≤ k → (∀ c ∈ p, (c.what = 1 ∨ c.what = 2 ∨ c.what = 3) ∧ ∀ h ∈ c.hunks, HeadOk h) → changesG k (linesG p) = some p
  | [], k, _, _ => by rw [show linesG [] = [] from rfl, changesG]
  | c :: p, k, hk, h => by
    have e : linesG (c :: p) = (mmL ++ fromL c.what c.path.data.toList) :: (ppL ++ toL c.what c.path.data.toList) :: (linesU c.hunks ++ linesG p) := rfl
    rw [e] at hk ⊢
    obtain ⟨k, rfl⟩ : ∃ j, k = j + 1 := ⟨k - 1, by simp at hk; omega⟩
    obtain ⟨hw, hh⟩ := h c (List.mem_cons_self ..)
    have hr : ∀ s r, linesG p = s :: r → hunkHead s = false := fun s r q => by
      cases p with
      | nil => cases q
      | cons d p =>
        have q' : (mmL ++ fromL d.what d.path.data.toList) :: _ = s :: r := q
        injection q' with q1 _
        rw [← q1]; rfl
    rw [changesG, headed_back _ hw]
    simp only
    rw [take_hunks hr c.hunks [] hh]
    simp only
    rw [changes_back p k (by simp at hk; omega) (fun d hd => h d (List.mem_cons_of_mem _ hd)), toB_of]
    rfl
end Go.Proofs.YtjiaidchcldocaaGreatDoor
namespace Go.Proofs.YtjiaidchcldocaaGreatDoor

/-! ### the order of paths -/
theorem bl_cons (a b : UInt8) (x y : List UInt8) : Op.bytesLess (a :: x) (b :: y) = (decide (a < b) || (a == b && Op.bytesLess x y)) := by rw [Op.bytesLess]
theorem bl_nil_r (x : List UInt8) : Op.bytesLess x [] = false := by cases x <;> rfl
theorem bl_irrefl : ∀ x : List UInt8, Op.bytesLess x x = false
  | [] => rfl
  | a :: x => by rw [bl_cons, bl_irrefl x]; simp
theorem bl_trans : ∀ {x y z : List UInt8}, Op.bytesLess x y = true → Op.bytesLess y z = true → Op.bytesLess x z = true
  | _, [], _, h, _ => by rw [bl_nil_r] at h; cases h
  | _, _ :: _, [], _, h => by rw [bl_nil_r] at h; cases h
  | [], _ :: _, _ :: _, _, _ => rfl
  | a :: x, b :: y, c :: z, h, g => by
    rw [bl_cons] at h g ⊢
    simp only [Bool.or_eq_true, decide_eq_true_eq, Bool.and_eq_true, beq_iff_eq] at h g ⊢
    rcases h with h | ⟨rfl, h⟩
    · rcases g with g | ⟨rfl, g⟩
      · exact .inl (UInt8.lt_trans h g)
      · exact .inl h
    · rcases g with g | ⟨rfl, g⟩
      · exact .inl g
      · exact .inr ⟨rfl, bl_trans h g⟩
theorem bl_tri : ∀ x y : List UInt8, Op.bytesLess x y = true ∨ x = y ∨ Op.bytesLess y x = true
  | [], [] => .inr (.inl rfl)
  | [], _ :: _ => .inl rfl
  | _ :: _, [] => .inr (.inr rfl)
  | a :: x, b :: y => by
    rw [bl_cons, bl_cons]
    simp only [Bool.or_eq_true, decide_eq_true_eq, Bool.and_eq_true, beq_iff_eq, List.cons.injEq]
    rcases Nat.lt_trichotomy a.toNat b.toNat with h | h | h
    · exact .inl (.inl (UInt8.lt_iff_toNat_lt.2 h))
    · have hab : a = b := UInt8.toNat_inj.1 h
      subst hab
      rcases bl_tri x y with h | h | h
      · exact .inl (.inr ⟨rfl, h⟩)
      · exact .inr (.inl ⟨rfl, h⟩)
      · exact .inr (.inr (.inr ⟨rfl, h⟩))
    · exact .inr (.inr (.inl (UInt8.lt_iff_toNat_lt.2 h)))
theorem compare_bl : ∀ x y : List UInt8, (Lib.compareBytes x y < 0 ↔ Op.bytesLess x y = true) ∧ (Lib.compareBytes x y = 0 ↔ x = y)
  | [], [] => by simp [Lib.compareBytes, Op.bytesLess]
  | [], _ :: _ => by simp [Lib.compareBytes, Op.bytesLess]
  | _ :: _, [] => by simp [Lib.compareBytes, Op.bytesLess]
  | a :: x, b :: y => by
    obtain ⟨i1, i2⟩ := compare_bl x y
    rw [bl_cons, Lib.compareBytes]
    by_cases h1 : a < b
    · have : a ≠ b := by rintro rfl; exact absurd h1 (UInt8.lt_irrefl a)
      simp [h1, this]
    · by_cases h2 : b < a
      · have : a ≠ b := by rintro rfl; exact absurd h2 (UInt8.lt_irrefl a)
        simp [h1, h2, this]
      · have hab : a = b := by
          have n1 : ¬ a.toNat < b.toNat := fun h => h1 (UInt8.lt_iff_toNat_lt.2 h)
          have n2 : ¬ b.toNat < a.toNat := fun h => h2 (UInt8.lt_iff_toNat_lt.2 h)
          exact UInt8.toNat_inj.1 (by omega)
        subst hab
        simp [h1, i1, i2]
def less (a b : ByteArray) : Bool := Op.bytesLess a.toList b.toList
theorem toList_inj {a b : ByteArray} (h : a.toList = b.toList) : a = b := by
  rw [Lib.toList_data, Lib.toList_data] at h
  exact ByteArray.ext (Array.toList_inj.1 h)
theorem less_irrefl (a : ByteArray) : less a a = false := bl_irrefl _
theorem less_trans {a b c : ByteArray} (h : less a b = true) (g : less b c = true) : less a c = true := bl_trans h g
theorem less_tri (a b : ByteArray) : less a b = true ∨ a = b ∨ less b a = true := by
  rcases bl_tri a.toList b.toList with h | h | h
  · exact .inl h
  · exact .inr (.inl (toList_inj h))
  · exact .inr (.inr h)
theorem less_asymm {a b : ByteArray} (h : less a b = true) : less b a = false := by
  cases hb : less b a with
  | false => rfl
  | true =>
    have := less_trans h hb
    rw [less_irrefl] at this
    cases this
theorem less_ne {a b : ByteArray} (h : less a b = true) : a ≠ b := by
  rintro rfl
  rw [less_irrefl] at h
  cases h
/-- the walk's 'a <= b' -/
def leqB (a b : ByteArray) : Bool := Op.bytesLess a.toList b.toList || a.toList == b.toList
theorem leqB_true {a b : ByteArray} : leqB a b = true ↔ less b a = false := by
  unfold leqB
  rw [Bool.or_eq_true, beq_iff_eq]
  constructor
  · rintro (h | h)
    · exact less_asymm h
    · rw [toList_inj h]; exact less_irrefl b
  · intro h
    rcases less_tri a b with g | g | g
    · exact .inl g
    · exact .inr (by rw [g])
    · rw [g] at h; cases h

/-! ### trees -/
def fileFault (f : File) : Int := if pathFault f.path = 0 then linesFault f.lines else pathFault f.path
def treeGo : Nat → Option ByteArray → List File → Nat × Int
  | _, _, [] => (0, 0)
  | i, prev, f :: r => if fileFault f ≠ 0 then (i, fileFault f) else if prev.any (fun p => leqB f.path p) = true then (i, 2) else treeGo (i + 1) (some f.path) r
def treeFault (t : List File) : Nat × Int := if 8 < t.length then (0, 3) else treeGo 0 none t
def Sorted (t : List File) : Prop := t.Pairwise fun f g => less f.path g.path = true

theorem treeGo_zero : ∀ (t : List File) (i : Nat) (prev : Option ByteArray), (treeGo i prev t).2 = 0 → (∀ f ∈ t, fileFault f = 0) ∧ Sorted t ∧ (∀ p f, prev = some p → f ∈ t → less p f.path = true) ∧ treeGo i prev t = (0, 0)
  | [], _, _, _ => ⟨by simp, List.Pairwise.nil, by simp, rfl⟩
  | f :: r, i, prev, h => by
    rw [treeGo] at h ⊢
    by_cases h1 : fileFault f ≠ 0
    · rw [if_pos h1] at h; exact absurd h h1
    · rw [if_neg h1] at h ⊢
      by_cases h2 : prev.any (fun p => leqB f.path p) = true
      · rw [if_pos h2] at h; cases h
      · rw [if_neg h2] at h ⊢
        obtain ⟨i1, i2, i3, i4⟩ := treeGo_zero r (i + 1) (some f.path) h
        refine ⟨?_, ?_, ?_, i4⟩
        · intro x hx
          rcases List.mem_cons.1 hx with rfl | hx
          · simpa using h1
          · exact i1 x hx
        · exact List.Pairwise.cons (fun g hg => i3 f.path g rfl hg) i2
        · rintro p x rfl hx
          have hp : less p f.path = true := by
            simp only [Option.any_some] at h2
            rcases less_tri p f.path with g | g | g
            · exact g
            · exact absurd (leqB_true.2 (by rw [g]; exact less_irrefl _)) h2
            · exact absurd (leqB_true.2 (less_asymm g)) h2
          rcases List.mem_cons.1 hx with rfl | hx
          · exact hp
          · exact less_trans hp (i3 f.path x rfl hx)
theorem treeFault_zero {t : List File} (h : (treeFault t).2 = 0) : t.length ≤ 8 ∧ (∀ f ∈ t, fileFault f = 0) ∧ Sorted t ∧ treeFault t = (0, 0) := by
  unfold treeFault at h ⊢
  by_cases h1 : 8 < t.length
  · rw [if_pos h1] at h; cases h
  · rw [if_neg h1] at h ⊢
    obtain ⟨i1, i2, _, i4⟩ := treeGo_zero t 0 none h
    exact ⟨by omega, i1, i2, i4⟩
theorem fileFault_zero {f : File} (h : fileFault f = 0) : pathFault f.path = 0 ∧ linesFault f.lines = 0 := by
  unfold fileFault at h
  by_cases h1 : pathFault f.path = 0
  · rw [if_pos h1] at h; exact ⟨h1, h⟩
  · rw [if_neg h1] at h; exact absurd h h1

/-- where a path is, or would be -/
def posOf (t : List File) (p : ByteArray) : Nat := (t.takeWhile fun f => less f.path p).length
def isAt (t : List File) (p : ByteArray) : Bool := (t[posOf t p]?).any fun f => decide (f.path = p)
def putAt (t : List File) (f : File) : List File := t.take (posOf t f.path) ++ f :: t.drop (if isAt t f.path = true then posOf t f.path + 1 else posOf t f.path)
def dropAt (t : List File) (k : Nat) : List File := t.take k ++ t.drop (k + 1)
theorem pos_unique {t : List File} {p : ByteArray} {i : Nat} (h1 : ∀ q f, q < i → t[q]? = some f → less f.path p = true) (h2 : ∀ f, t[i]? = some f → less f.path p = false) (hi : i ≤ t.length) : posOf t p = i := by
  induction t generalizing i with
  | nil => simp at hi; subst hi; rfl
  | cons x t ih =>
    unfold posOf at ih ⊢
    cases i with
    | zero =>
      have := h2 x rfl
      rw [List.takeWhile_cons, this]; rfl
    | succ i =>
      have := h1 0 x (Nat.succ_pos i) rfl
      rw [List.takeWhile_cons, this]
      simp only [if_true, List.length_cons]
      congr 1
      exact ih (fun q f hq hf => h1 (q + 1) f (by omega) (by simpa using hf)) (fun f hf => h2 f (by simpa using hf)) (by simpa using hi)
theorem sorted_mono {t : List File} (h : Sorted t) {i j : Nat} {f g : File} (hij : i < j) (hi : t[i]? = some f) (hj : t[j]? = some g) : less f.path g.path = true := by
  obtain ⟨hi1, hi2⟩ := List.getElem?_eq_some_iff.1 hi
  obtain ⟨hj1, hj2⟩ := List.getElem?_eq_some_iff.1 hj
  have := List.pairwise_iff_getElem.1 h i j hi1 hj1 hij
  rw [hi2, hj2] at this
  exact this
end Go.Proofs.YtjiaidchcldocaaGreatDoor
namespace Go.Proofs.YtjiaidchcldocaaGreatDoor

def look (t : List File) (p : ByteArray) : Option (List ByteArray) := (t.find? fun f => decide (f.path = p)).map (·.lines)
theorem look_nil (p : ByteArray) : look [] p = none := rfl
theorem look_cons (x : File) (r : List File) (p : ByteArray) : look (x :: r) p = if x.path = p then some x.lines else look r p := by
  unfold look
  by_cases h : x.path = p
  · rw [List.find?_cons_of_pos (by simpa using h), if_pos h]; rfl
  · rw [List.find?_cons_of_neg (by simpa using h), if_neg h]
theorem look_none : ∀ {A : List File} {p : ByteArray}, (∀ x ∈ A, x.path ≠ p) → look A p = none
  | [], _, _ => rfl
  | x :: r, p, h => by rw [look_cons, if_neg (h x (List.mem_cons_self ..)), look_none fun y hy => h y (List.mem_cons_of_mem _ hy)]
theorem look_app : ∀ (A B : List File) (p : ByteArray), look (A ++ B) p = (look A p).or (look B p)
  | [], B, p => by simp [look_nil]
  | x :: A, B, p => by
    rw [List.cons_append, look_cons, look_cons, look_app A B p]
    by_cases h : x.path = p
    · rw [if_pos h, if_pos h]; rfl
    · rw [if_neg h, if_neg h]
theorem look_some : ∀ {A : List File} {p : ByteArray} {l : List ByteArray}, look A p = some l → ∃ x ∈ A, x.path = p ∧ x.lines = l
  | [], _, _, h => by cases h
  | x :: r, p, l, h => by
    rw [look_cons] at h
    by_cases e : x.path = p
    · rw [if_pos e] at h
      exact ⟨x, List.mem_cons_self .., e, Option.some.inj h⟩
    · rw [if_neg e] at h
      obtain ⟨y, hy, h2⟩ := look_some h
      exact ⟨y, List.mem_cons_of_mem _ hy, h2⟩
theorem look_mem {t : List File} (hs : Sorted t) {x : File} (h : x ∈ t) : look t x.path = some x.lines := by
  induction t with
  | nil => cases h
  | cons y r ih =>
    obtain ⟨h1, h2⟩ := List.pairwise_cons.1 hs
    rw [look_cons]
    rcases List.mem_cons.1 h with rfl | h
    · rw [if_pos rfl]
    · rw [if_neg (less_ne (h1 x h)), ih h2 h]

theorem tree_split {t : List File} (hs : Sorted t) (p : ByteArray) : ∃ A C : List File, (∀ x ∈ A, less x.path p = true) ∧ (∀ x ∈ C, less p x.path = true) ∧ Sorted A ∧ Sorted C ∧ posOf t p = A.length ∧
    ((isAt t p = true ∧ ∃ g, g.path = p ∧ t = A ++ g :: C) ∨ (isAt t p = false ∧ t = A ++ C)) := by
  induction t with
  | nil => exact ⟨[], [], by simp, by simp, List.Pairwise.nil, List.Pairwise.nil, rfl, .inr ⟨rfl, rfl⟩⟩
  | cons x r ih =>
    obtain ⟨h1, h2⟩ := List.pairwise_cons.1 hs
    rcases less_tri x.path p with g | g | g
    · obtain ⟨A, C, a1, a2, a3, a4, a5, a6⟩ := ih h2
      have e2 : posOf (x :: r) p = posOf r p + 1 := by unfold posOf; rw [List.takeWhile_cons, g]; rfl
      have e3 : isAt (x :: r) p = isAt r p := by unfold isAt; rw [e2, List.getElem?_cons_succ]
      have hA : Sorted (x :: A) := by
        refine List.Pairwise.cons (fun y hy => h1 y ?_) a3
        rcases a6 with ⟨_, w, _, rfl⟩ | ⟨_, rfl⟩
        · exact List.mem_append_left _ hy
        · exact List.mem_append_left _ hy
      refine ⟨x :: A, C, ?_, a2, hA, a4, by rw [e2, a5]; rfl, ?_⟩
      · intro y hy
        rcases List.mem_cons.1 hy with rfl | hy
        · exact g
        · exact a1 y hy
      · rw [e3]
        rcases a6 with ⟨b1, w, b2, b3⟩ | ⟨b1, b2⟩
        · exact .inl ⟨b1, w, b2, by rw [b3]; rfl⟩
        · exact .inr ⟨b1, by rw [b2]; rfl⟩
    · have e2 : posOf (x :: r) p = 0 := by unfold posOf; rw [List.takeWhile_cons, g, less_irrefl]; rfl
      exact ⟨[], r, by simp, fun y hy => by rw [← g]; exact h1 y hy, List.Pairwise.nil, h2, e2, .inl ⟨by unfold isAt; rw [e2]; simp [g], x, g, rfl⟩⟩
    · have e2 : posOf (x :: r) p = 0 := by unfold posOf; rw [List.takeWhile_cons, less_asymm g]; rfl
      refine ⟨[], x :: r, by simp, fun y hy => ?_, List.Pairwise.nil, hs, e2, .inr ⟨by unfold isAt; rw [e2]; simp [(less_ne g).symm], rfl⟩⟩
      rcases List.mem_cons.1 hy with rfl | hy
      · exact g
      · exact less_trans g (h1 y hy)
theorem sorted_join {A C : List File} {f : File} (a1 : ∀ x ∈ A, less x.path f.path = true) (a2 : ∀ x ∈ C, less f.path x.path = true) (a3 : Sorted A) (a4 : Sorted C) : Sorted (A ++ f :: C) := by
  refine List.pairwise_append.2 ⟨a3, List.Pairwise.cons a2 a4, fun x hx y hy => ?_⟩
  rcases List.mem_cons.1 hy with rfl | hy
  · exact a1 x hx
  · exact less_trans (a1 x hx) (a2 y hy)
theorem sorted_pair {A C : List File} {p : ByteArray} (a1 : ∀ x ∈ A, less x.path p = true) (a2 : ∀ x ∈ C, less p x.path = true) (a3 : Sorted A) (a4 : Sorted C) : Sorted (A ++ C) :=
  List.pairwise_append.2 ⟨a3, a4, fun x hx y hy => less_trans (a1 x hx) (a2 y hy)⟩
theorem isAt_look {t : List File} (hs : Sorted t) (p : ByteArray) : isAt t p = (look t p).isSome := by
  obtain ⟨A, C, a1, a2, _, _, _, a6⟩ := tree_split hs p
  rcases a6 with ⟨b1, w, b2, rfl⟩ | ⟨b1, rfl⟩
  · rw [b1, look_app, look_none fun x hx => less_ne (a1 x hx), look_cons, if_pos b2]; rfl
  · rw [b1, look_app, look_none fun x hx => less_ne (a1 x hx), look_none fun x hx => (less_ne (a2 x hx)).symm]; rfl
theorem putAt_is {t : List File} (hs : Sorted t) (f : File) : ∃ A C : List File, (∀ x ∈ A, less x.path f.path = true) ∧ (∀ x ∈ C, less f.path x.path = true) ∧ Sorted A ∧ Sorted C ∧ putAt t f = A ++ f :: C ∧
    ((isAt t f.path = true ∧ ∃ g, g.path = f.path ∧ t = A ++ g :: C) ∨ (isAt t f.path = false ∧ t = A ++ C)) := by
  obtain ⟨A, C, a1, a2, a3, a4, a5, a6⟩ := tree_split hs f.path
  refine ⟨A, C, a1, a2, a3, a4, ?_, a6⟩
  unfold putAt
  rcases a6 with ⟨b1, w, b2, rfl⟩ | ⟨b1, rfl⟩
  · rw [if_pos b1, a5, List.take_left' rfl, List.drop_append, List.drop_eq_nil_of_le (by omega)]
    simp
  · rw [if_neg (by rw [b1]; decide), a5, List.take_left' rfl, List.drop_left' rfl]
theorem putAt_sorted {t : List File} (hs : Sorted t) (f : File) : Sorted (putAt t f) := by
  obtain ⟨A, C, a1, a2, a3, a4, a5, _⟩ := putAt_is hs f
  rw [a5]
  exact sorted_join a1 a2 a3 a4
theorem putAt_look {t : List File} (hs : Sorted t) (f : File) (p : ByteArray) : look (putAt t f) p = if f.path = p then some f.lines else look t p := by
  obtain ⟨A, C, a1, a2, a3, a4, a5, a6⟩ := putAt_is hs f
  rw [a5, look_app, look_cons]
  by_cases e : f.path = p
  · rw [if_pos e, if_pos e, look_none fun x hx => by rw [← e]; exact less_ne (a1 x hx)]; rfl
  · rw [if_neg e, if_neg e]
    rcases a6 with ⟨b1, w, b2, rfl⟩ | ⟨b1, rfl⟩
    · rw [look_app, look_cons, if_neg (by rw [b2]; exact e)]
    · rw [look_app]
theorem putAt_len {t : List File} (hs : Sorted t) (f : File) : (putAt t f).length = if isAt t f.path = true then t.length else t.length + 1 := by
  obtain ⟨A, C, a1, a2, a3, a4, a5, a6⟩ := putAt_is hs f
  rw [a5]
  rcases a6 with ⟨b1, w, b2, rfl⟩ | ⟨b1, rfl⟩
  · rw [if_pos b1]; simp
  · rw [if_neg (by rw [b1]; decide)]; simp; omega
theorem dropAt_isp {t : List File} (hs : Sorted t) {p : ByteArray} (h : isAt t p = true) : ∃ A C : List File, (∀ x ∈ A, less x.path p = true) ∧ (∀ x ∈ C, less p x.path = true) ∧ Sorted A ∧ Sorted C ∧ dropAt t (posOf t p) = A ++ C ∧ ∃ g, g.path = p ∧ t = A ++ g :: C := by
  obtain ⟨A, C, a1, a2, a3, a4, a5, a6⟩ := tree_split hs p
  rcases a6 with ⟨b1, w, b2, rfl⟩ | ⟨b1, rfl⟩
  · refine ⟨A, C, a1, a2, a3, a4, ?_, w, b2, rfl⟩
    unfold dropAt
    rw [a5, List.take_left' rfl, List.drop_append, List.drop_eq_nil_of_le (by omega)]
    simp
  · rw [b1] at h; cases h
theorem dropAt_sorted {t : List File} (hs : Sorted t) {p : ByteArray} (h : isAt t p = true) : Sorted (dropAt t (posOf t p)) := by
  obtain ⟨A, C, a1, a2, a3, a4, a5, _⟩ := dropAt_isp hs h
  rw [a5]
  exact sorted_pair a1 a2 a3 a4
theorem dropAt_look {t : List File} (hs : Sorted t) {p : ByteArray} (h : isAt t p = true) (q : ByteArray) : look (dropAt t (posOf t p)) q = if p = q then none else look t q := by
  obtain ⟨A, C, a1, a2, a3, a4, a5, g, b1, b2⟩ := dropAt_isp hs h
  rw [a5, look_app]
  by_cases e : p = q
  · subst e
    rw [if_pos rfl, look_none fun x hx => less_ne (a1 x hx), look_none fun x hx => (less_ne (a2 x hx)).symm]; rfl
  · rw [if_neg e, b2, look_app, look_cons, if_neg (by rw [b1]; exact e)]
/-- two trees in which each path reads the same are the same -/
theorem sorted_ext : ∀ {t u : List File}, Sorted t → Sorted u → (∀ p, look t p = look u p) → t = u
  | [], [], _, _, _ => rfl
  | [], y :: s, _, _, h => by have := h y.path; rw [look_nil, look_cons, if_pos rfl] at this; cases this
  | x :: r, [], _, _, h => by have := h x.path; rw [look_nil, look_cons, if_pos rfl] at this; cases this
  | x :: r, y :: s, hs, hu, h => by
    obtain ⟨h1, h2⟩ := List.pairwise_cons.1 hs
    obtain ⟨g1, g2⟩ := List.pairwise_cons.1 hu
    have hx := h x.path
    rw [look_cons, if_pos rfl, look_cons] at hx
    have hy := h y.path
    rw [look_cons y s, if_pos rfl, look_cons] at hy
    have key : x.path = y.path := by
      rcases less_tri x.path y.path with g | g | g
      · rw [if_neg (less_ne g).symm, look_none fun z hz => (less_ne (less_trans g (g1 z hz))).symm] at hx
        cases hx
      · exact g
      · rw [if_neg (less_ne g).symm, look_none fun z hz => (less_ne (less_trans g (h1 z hz))).symm] at hy
        cases hy
    rw [if_pos key.symm] at hx
    have e : x = y := by
      cases x; cases y
      simp only at key hx
      simp [key, Option.some.inj hx]
    subst e
    congr 1
    refine sorted_ext h2 g2 fun p => ?_
    have := h p
    rw [look_cons, look_cons] at this
    by_cases e : x.path = p
    · rw [look_none fun z hz => by rw [← e]; exact (less_ne (h1 z hz)).symm, look_none fun z hz => by rw [← e]; exact (less_ne (g1 z hz)).symm]
    · rw [if_neg e, if_neg e] at this
      exact this

/-! ### what makes a tree -/
theorem treeGo_ok : ∀ (t : List File) (i : Nat) (prev : Option ByteArray), (∀ f ∈ t, fileFault f = 0) → Sorted t → (∀ p f, prev = some p → f ∈ t → less p f.path = true) → treeGo i prev t = (0, 0)
  | [], _, _, _, _, _ => rfl
  | f :: r, i, prev, h1, h2, h3 => by
    obtain ⟨g1, g2⟩ := List.pairwise_cons.1 h2
    have hp : ¬ prev.any (fun p => leqB f.path p) = true := by
      cases prev with
      | none => simp
      | some p =>
        simp only [Option.any_some]
        intro e
        have := leqB_true.1 e
        rw [h3 p f rfl (List.mem_cons_self ..)] at this
        cases this
    rw [treeGo, if_neg (by rw [h1 f (List.mem_cons_self ..)]; simp), if_neg hp]
    exact treeGo_ok r (i + 1) (some f.path) (fun x hx => h1 x (List.mem_cons_of_mem _ hx)) g2 (fun p x hp hx => by cases hp; exact g1 x hx)
theorem treeFault_ok {t : List File} (h0 : t.length ≤ 8) (h1 : ∀ f ∈ t, fileFault f = 0) (h2 : Sorted t) : treeFault t = (0, 0) := by
  unfold treeFault
  rw [if_neg (by omega)]
  exact treeGo_ok t 0 none h1 h2 (by simp)
/-- a tree that may be -/
def Tree (t : List File) : Prop := t.length ≤ 8 ∧ (∀ f ∈ t, fileFault f = 0) ∧ Sorted t
theorem tree_iff {t : List File} : Tree t ↔ (treeFault t).2 = 0 :=
  ⟨fun h => by rw [treeFault_ok h.1 h.2.1 h.2.2], fun h => by obtain ⟨a, b, c, _⟩ := treeFault_zero h; exact ⟨a, b, c⟩⟩
end Go.Proofs.YtjiaidchcldocaaGreatDoor
namespace Go.Proofs.YtjiaidchcldocaaGreatDoor

def isChange (m : Mark) : Bool := !(m.sign == 32)
/-- is mark k within n of one that takes or puts? -/
def inAt (s : List Mark) (n : Int) (k : Nat) : Bool := (List.range s.length).any fun i => (s[i]?.any isChange) && decide ((k : Int) ≤ i + n) && decide ((i : Int) ≤ k + n)
/-- a mark more in the last hunk -/
def pushLast (out : List Hunk) (m : Mark) : List Hunk :=
  match out.getLast? with
  | some h => out.dropLast ++ [{ h with marks := h.marks ++ [m] }]
  | none => out
/-- one step: the hunks so far, whether the mark ahead was in one, how many old and new lines stand ahead -/
def cutStep (out : List Hunk) (was inn : Bool) (before after : Nat) (m : Mark) : List Hunk :=
  if inn then pushLast (if was then out else out ++ [⟨before, after, []⟩]) m else out
def cutTo (s : List Mark) (n : Int) : Nat → List Hunk
  | 0 => []
  | k + 1 => match s[k]? with
    | some m => cutStep (cutTo s n k) (decide (0 < k) && inAt s n (k - 1)) (inAt s n k) (oldN (s.take k)) (newN (s.take k)) m
    | none => cutTo s n k
def cutOf (s : List Mark) (n : Int) : List Hunk := cutTo s n s.length
def cutFault (s : List Mark) (n : Int) : Int :=
  if scriptFault s ≠ 0 then scriptFault s else if n < 0 ∨ 1000 < n then 1 else if 60 < oldN s ∨ 60 < newN s then 3 else 0
end Go.Proofs.YtjiaidchcldocaaGreatDoor
namespace Go.Proofs.YtjiaidchcldocaaGreatDoor

def wholeR (l : List ByteArray) (s : Int) : List Hunk := if l = [] then [] else [⟨0, 0, l.map fun x => ⟨s, x⟩⟩]
/-- the change of a path by what it reads ahead and behind -/
def chg (n : Int) (p : ByteArray) : Option (List ByteArray) → Option (List ByteArray) → List Change
  | none, none => []
  | none, some y => [⟨2, p, wholeR y 43⟩]
  | some x, none => [⟨3, p, wholeR x 45⟩]
  | some x, some y => if cutOf (script x y) n = [] then [] else [⟨1, p, cutOf (script x y) n⟩]
def diffL (n : Int) : List File → List File → List Change
  | [], [] => []
  | x :: a, [] => ⟨3, x.path, wholeR x.lines 45⟩ :: diffL n a []
  | [], y :: b => ⟨2, y.path, wholeR y.lines 43⟩ :: diffL n [] b
  | x :: a, y :: b =>
    if less x.path y.path = true then ⟨3, x.path, wholeR x.lines 45⟩ :: diffL n a (y :: b)
    else if less y.path x.path = true then ⟨2, y.path, wholeR y.lines 43⟩ :: diffL n (x :: a) b
    else chg n x.path (some x.lines) (some y.lines) ++ diffL n a b
termination_by a b => a.length + b.length
def mergeT : List File → List File → List File
  | [], [] => []
  | x :: a, [] => x :: mergeT a []
  | [], y :: b => y :: mergeT [] b
  | x :: a, y :: b =>
    if less x.path y.path = true then x :: mergeT a (y :: b)
    else if less y.path x.path = true then y :: mergeT (x :: a) b
    else y :: mergeT a b
termination_by a b => a.length + b.length
def allOf (a b : List File) : List File := b.foldl putAt a
def refDiff (a b : List File) (n : Int) : List Change := (allOf a b).flatMap fun f => chg n f.path (look a f.path) (look b f.path)

theorem flat_congr {α β : Type} {g h : α → List β} : ∀ {l : List α}, (∀ x ∈ l, g x = h x) → l.flatMap g = l.flatMap h
  | [], _ => rfl
  | x :: r, e => by rw [List.flatMap_cons, List.flatMap_cons, e x (List.mem_cons_self ..), flat_congr fun y hy => e y (List.mem_cons_of_mem _ hy)]
theorem less_same {p q : ByteArray} (h : ¬ less p q = true) (g : ¬ less q p = true) : p = q := by
  rcases less_tri p q with e | e | e
  · exact absurd e h
  · exact e
  · exact absurd e g
/-- all of two lists lie behind a path -/
def Behind (p : ByteArray) (a : List File) : Prop := ∀ x ∈ a, less p x.path = true
theorem Behind.trans {p q : ByteArray} {a : List File} (h : Behind q a) (g : less p q = true) : Behind p a := fun x hx => less_trans g (h x hx)
theorem Behind.cons {p : ByteArray} {x : File} {a : List File} (h : Behind p a) (g : less p x.path = true) : Behind p (x :: a) := fun y hy => by
  rcases List.mem_cons.1 hy with rfl | hy
  · exact g
  · exact h y hy
theorem Behind.none {p : ByteArray} {a : List File} (h : Behind p a) : look a p = none := look_none fun x hx => (less_ne (h x hx)).symm
theorem sorted_cons {x : File} {a : List File} (h : Sorted (x :: a)) : Behind x.path a ∧ Sorted a := List.pairwise_cons.1 h
theorem merge_behind (p : ByteArray) : ∀ (a b : List File), Behind p a → Behind p b → Behind p (mergeT a b)
  | [], [], _, _ => by rw [mergeT]; exact fun x hx => by cases hx
  | x :: a, [], h, g => by
    rw [mergeT]
    exact Behind.cons (merge_behind p a [] (fun y hy => h y (List.mem_cons_of_mem _ hy)) g) (h x (List.mem_cons_self ..))
  | [], y :: b, h, g => by
    rw [mergeT]
    exact Behind.cons (merge_behind p [] b h (fun z hz => g z (List.mem_cons_of_mem _ hz))) (g y (List.mem_cons_self ..))
  | x :: a, y :: b, h, g => by
    have h1 : Behind p a := fun y hy => h y (List.mem_cons_of_mem _ hy)
    have g1 : Behind p b := fun y hy => g y (List.mem_cons_of_mem _ hy)
    rw [mergeT]
    split
    · exact Behind.cons (merge_behind p a (y :: b) h1 g) (h x (List.mem_cons_self ..))
    · split
      · exact Behind.cons (merge_behind p (x :: a) b h g1) (g y (List.mem_cons_self ..))
      · exact Behind.cons (merge_behind p a b h1 g1) (g y (List.mem_cons_self ..))
termination_by a b => a.length + b.length
theorem merge_sorted : ∀ (a b : List File), Sorted a → Sorted b → Sorted (mergeT a b)
  | [], [], _, _ => by rw [mergeT]; exact List.Pairwise.nil
  | x :: a, [], h, g => by
    rw [mergeT]
    exact List.Pairwise.cons (merge_behind x.path a [] (sorted_cons h).1 (fun y hy => by cases hy)) (merge_sorted a [] (sorted_cons h).2 g)
  | [], y :: b, h, g => by
    rw [mergeT]
    exact List.Pairwise.cons (merge_behind y.path [] b (fun y hy => by cases hy) (sorted_cons g).1) (merge_sorted [] b h (sorted_cons g).2)
  | x :: a, y :: b, h, g => by
    obtain ⟨h1, h2⟩ := sorted_cons h
    obtain ⟨g1, g2⟩ := sorted_cons g
    rw [mergeT]
    split
    · rename_i l1
      exact List.Pairwise.cons (merge_behind x.path a (y :: b) h1 ((g1.trans l1).cons l1)) (merge_sorted a (y :: b) h2 g)
    · rename_i l1
      split
      · rename_i l2
        exact List.Pairwise.cons (merge_behind y.path (x :: a) b ((h1.trans l2).cons l2) g1) (merge_sorted (x :: a) b h g2)
      · rename_i l2
        have e := less_same l1 l2
        exact List.Pairwise.cons (merge_behind y.path a b (by rw [← e]; exact h1) g1) (merge_sorted a b h2 g2)
termination_by a b => a.length + b.length
theorem merge_look (p : ByteArray) : ∀ (a b : List File), Sorted a → Sorted b → look (mergeT a b) p = (look b p).or (look a p)
  | [], [], _, _ => by rw [mergeT]; rfl
  | x :: a, [], h, g => by
    rw [mergeT, look_cons, look_cons, merge_look p a [] (sorted_cons h).2 g]
    rw [look_nil]; rfl
  | [], y :: b, h, g => by
    rw [mergeT, look_cons, look_cons, merge_look p [] b h (sorted_cons g).2]
    by_cases e : y.path = p
    · rw [if_pos e, if_pos e]; rfl
    · rw [if_neg e, if_neg e]
  | x :: a, y :: b, h, g => by
    obtain ⟨h1, h2⟩ := sorted_cons h
    obtain ⟨g1, g2⟩ := sorted_cons g
    rw [mergeT]
    split
    · rename_i l1
      rw [look_cons, merge_look p a (y :: b) h2 g, look_cons x a]
      by_cases e : x.path = p
      · rw [if_pos e, if_pos e, Behind.none (p := p) (by rw [← e]; exact (g1.trans l1).cons l1)]; rfl
      · rw [if_neg e, if_neg e]
    · rename_i l1
      split
      · rename_i l2
        rw [look_cons, merge_look p (x :: a) b h g2, look_cons y b]
        by_cases e : y.path = p
        · rw [if_pos e, if_pos e]; rfl
        · rw [if_neg e, if_neg e]
      · rename_i l2
        have e := less_same l1 l2
        rw [look_cons, merge_look p a b h2 g2, look_cons y b, look_cons x a]
        by_cases q : y.path = p
        · rw [if_pos q, if_pos q]; rfl
        · rw [if_neg q, if_neg q, if_neg (by rw [e]; exact q)]
termination_by a b => a.length + b.length
theorem all_sorted : ∀ (b a : List File), Sorted a → Sorted (allOf a b)
  | [], _, h => h
  | x :: r, a, h => all_sorted r (putAt a x) (putAt_sorted h x)
theorem all_look (p : ByteArray) : ∀ (b a : List File), Sorted a → Sorted b → look (allOf a b) p = (look b p).or (look a p)
  | [], a, _, _ => rfl
  | x :: r, a, h, g => by
    obtain ⟨g1, g2⟩ := sorted_cons g
    have := all_look p r (putAt a x) (putAt_sorted h x) g2
    rw [show allOf a (x :: r) = allOf (putAt a x) r from rfl, this, putAt_look h, look_cons]
    by_cases e : x.path = p
    · rw [if_pos e, if_pos e, Behind.none (p := p) (by rw [← e]; exact g1)]; rfl
    · rw [if_neg e, if_neg e]
theorem all_merge {a b : List File} (h : Sorted a) (g : Sorted b) : allOf a b = mergeT a b :=
  sorted_ext (all_sorted b a h) (merge_sorted a b h g) fun p => by rw [all_look p b a h g, merge_look p a b h g]
theorem merge_diff (n : Int) : ∀ (a b : List File), Sorted a → Sorted b → ((mergeT a b).flatMap fun f => chg n f.path (look a f.path) (look b f.path)) = diffL n a b
  | [], [], _, _ => by rw [mergeT, diffL]; rfl
  | x :: a, [], h, g => by
    obtain ⟨h1, h2⟩ := sorted_cons h
    rw [mergeT, diffL, List.flatMap_cons, ← merge_diff n a [] h2 g, look_cons, if_pos rfl, look_nil]
    refine congrArg (fun l => _ :: l) (flat_congr fun f hf => ?_)
    rw [look_cons, if_neg (less_ne (merge_behind x.path a [] h1 (fun y hy => by cases hy) f hf))]
  | [], y :: b, h, g => by
    obtain ⟨g1, g2⟩ := sorted_cons g
    rw [mergeT, diffL, List.flatMap_cons, ← merge_diff n [] b h g2, look_cons, if_pos rfl, look_nil]
    refine congrArg (fun l => _ :: l) (flat_congr fun f hf => ?_)
    rw [look_cons, if_neg (less_ne (merge_behind y.path [] b (fun y hy => by cases hy) g1 f hf))]
  | x :: a, y :: b, h, g => by
    obtain ⟨h1, h2⟩ := sorted_cons h
    obtain ⟨g1, g2⟩ := sorted_cons g
    rw [mergeT, diffL]
    by_cases l1 : less x.path y.path = true
    · have q := (g1.trans l1).cons l1
      rw [if_pos l1, if_pos l1, List.flatMap_cons, ← merge_diff n a (y :: b) h2 g, q.none, look_cons, if_pos rfl]
      refine congrArg (fun l => _ :: l) (flat_congr fun f hf => ?_)
      rw [look_cons x a, if_neg (less_ne (merge_behind x.path a (y :: b) h1 q f hf))]
    · rw [if_neg l1, if_neg l1]
      by_cases l2 : less y.path x.path = true
      · have q := (h1.trans l2).cons l2
        rw [if_pos l2, if_pos l2, List.flatMap_cons, ← merge_diff n (x :: a) b h g2, q.none, look_cons, if_pos rfl]
        refine congrArg (fun l => _ :: l) (flat_congr fun f hf => ?_)
        rw [look_cons y b, if_neg (less_ne (merge_behind y.path (x :: a) b q g1 f hf))]
      · have e := less_same l1 l2
        rw [if_neg l2, if_neg l2, List.flatMap_cons, ← merge_diff n a b h2 g2, look_cons, if_pos e, look_cons, if_pos rfl, e]
        refine congrArg (fun l => _ ++ l) (flat_congr fun f hf => ?_)
        have q := less_ne (merge_behind y.path a b (by rw [← e]; exact h1) g1 f hf)
        rw [look_cons y b, look_cons x a, if_neg (by rw [e]; exact q), if_neg q]
termination_by a b => a.length + b.length
theorem diff_same {a b : List File} (n : Int) (h : Sorted a) (g : Sorted b) : refDiff a b n = diffL n a b := by
  unfold refDiff
  rw [all_merge h g, merge_diff n a b h g]
end Go.Proofs.YtjiaidchcldocaaGreatDoor
namespace Go.Proofs.YtjiaidchcldocaaGreatDoor

theorem far_nil (b : List ByteArray) : far [] b = b.length := by rw [far]
theorem far_nil' (a : List ByteArray) : far a [] = a.length := by cases a <;> rw [far] <;> rfl
theorem far_cons (x y : ByteArray) (a b : List ByteArray) : far (x :: a) (y :: b) = if x = y then far a b else 1 + min (far a (y :: b)) (far (x :: a) b) := by rw [far]
theorem far_same (x : ByteArray) (a b : List ByteArray) : far (x :: a) (x :: b) = far a b := by rw [far_cons, if_pos rfl]

theorem far_comm : ∀ (n : Nat) (a b : List ByteArray), a.length + b.length = n → far a b = far b a := by
  intro n
  induction n using Nat.strongRecOn with
  | _ n ih =>
    intro a b hn
    match a, b with
    | [], b => rw [far_nil, far_nil']
    | x :: a, [] => rw [far_nil, far_nil']
    | x :: a, y :: b =>
      simp only [List.length_cons] at hn
      rw [far_cons, far_cons, ih _ (by omega) a b rfl, ih _ (by simp only [List.length_cons]; omega) a (y :: b) rfl, ih _ (by simp only [List.length_cons]; omega) (x :: a) b rfl]
      by_cases h : x = y
      · subst h; simp
      · rw [if_neg h, if_neg (fun e => h e.symm), Nat.min_comm]
theorem far_symm (a b : List ByteArray) : far a b = far b a := far_comm _ a b rfl

/-- one line more at either head: at most one further, at most one nearer -/
theorem far_step : ∀ (n : Nat) (x : ByteArray) (a c : List ByteArray), a.length + c.length = n → far (x :: a) c ≤ 1 + far a c ∧ far a c ≤ 1 + far (x :: a) c := by
  intro n
  induction n using Nat.strongRecOn with
  | _ n ih =>
    intro x a c hn
    match c with
    | [] => rw [far_nil', far_nil']; simp only [List.length_cons]; omega
    | z :: c =>
      simp only [List.length_cons] at hn
      have h1 := ih (a.length + c.length) (by omega) z c a (by omega)
      rw [far_symm (z :: c) a, far_symm c a] at h1
      have h2 := ih (a.length + c.length) (by omega) x a c rfl
      rw [far_cons]
      by_cases h : x = z
      · rw [if_pos h]; omega
      · rw [if_neg h]; omega

theorem far_take (x : ByteArray) (a c : List ByteArray) : far (x :: a) c ≤ 1 + far a c := (far_step _ x a c rfl).1
theorem far_le : ∀ (a b : List ByteArray), far a b ≤ a.length + b.length
  | [], b => by rw [far_nil]; simp
  | x :: a, b => by have := far_take x a b; have := far_le a b; simp only [List.length_cons]; omega
/-! ### scripts -/
def signsOk (s : List Mark) : Prop := ∀ m ∈ s, m.sign = 32 ∨ m.sign = 45 ∨ m.sign = 43

theorem oldOf_cons (m : Mark) (s : List Mark) : oldOf (m :: s) = if m.sign = 43 then oldOf s else m.text :: oldOf s := by
  by_cases h : m.sign = 43 <;> simp [oldOf, those, h]
theorem newOf_cons (m : Mark) (s : List Mark) : newOf (m :: s) = if m.sign = 45 then newOf s else m.text :: newOf s := by
  by_cases h : m.sign = 45 <;> simp [newOf, those, h]
theorem changes_cons (m : Mark) (s : List Mark) : changes (m :: s) = if m.sign = 32 then changes s else changes s + 1 := by
  by_cases h : m.sign = 32 <;> simp [changes, h]

theorem script_facts : ∀ (n : Nat) (a b : List ByteArray), a.length + b.length = n →
    oldOf (script a b) = a ∧ newOf (script a b) = b ∧ changes (script a b) = far a b ∧ signsOk (script a b) := by
  intro n
  induction n using Nat.strongRecOn with
  | _ n ih =>
    intro a b hn
    match a, b with
    | [], [] => rw [script, far_nil]; simp [oldOf, newOf, those, changes, signsOk]
    | x :: a, [] =>
      obtain ⟨h1, h2, h3, h4⟩ := ih _ (by simp only [List.length_cons, List.length_nil] at hn ⊢; omega) a [] rfl
      rw [script, oldOf_cons, newOf_cons, changes_cons, h1, h2, h3, far_nil', far_nil']
      refine ⟨by simp, by simp, by simp, ?_⟩
      intro m hm
      rcases List.mem_cons.1 hm with rfl | hm
      · simp
      · exact h4 m hm
    | [], y :: b =>
      obtain ⟨h1, h2, h3, h4⟩ := ih _ (by simp only [List.length_cons, List.length_nil] at hn ⊢; omega) [] b rfl
      rw [script, oldOf_cons, newOf_cons, changes_cons, h1, h2, h3, far_nil, far_nil]
      refine ⟨by simp, by simp, by simp, ?_⟩
      intro m hm
      rcases List.mem_cons.1 hm with rfl | hm
      · simp
      · exact h4 m hm
    | x :: a, y :: b =>
      simp only [List.length_cons] at hn
      obtain ⟨p1, p2, p3, p4⟩ := ih _ (by omega) a b rfl
      obtain ⟨q1, q2, q3, q4⟩ := ih _ (by simp only [List.length_cons]; omega) a (y :: b) rfl
      obtain ⟨r1, r2, r3, r4⟩ := ih _ (by simp only [List.length_cons]; omega) (x :: a) b rfl
      have e := far_cons x y a b
      rw [script]
      by_cases hxy : x = y
      · subst hxy
        rw [if_pos rfl] at e ⊢
        rw [oldOf_cons, newOf_cons, changes_cons, p1, p2, p3, e]
        refine ⟨by simp, by simp, by simp, ?_⟩
        intro m hm
        rcases List.mem_cons.1 hm with rfl | hm
        · simp
        · exact p4 m hm
      · rw [if_neg hxy] at e ⊢
        by_cases ht : far a (y :: b) + 1 = far (x :: a) (y :: b)
        · rw [if_pos ht, oldOf_cons, newOf_cons, changes_cons, q1, q2, q3]
          refine ⟨by simp, by simp, by simp; omega, ?_⟩
          intro m hm
          rcases List.mem_cons.1 hm with rfl | hm
          · simp
          · exact q4 m hm
        · rw [if_neg ht, oldOf_cons, newOf_cons, changes_cons, r1, r2, r3]
          refine ⟨by simp, by simp, by simp; omega, ?_⟩
          intro m hm
          rcases List.mem_cons.1 hm with rfl | hm
          · simp
          · exact r4 m hm
theorem script_old (a b : List ByteArray) : oldOf (script a b) = a := (script_facts _ a b rfl).1
theorem script_new (a b : List ByteArray) : newOf (script a b) = b := (script_facts _ a b rfl).2.1
theorem script_signs (a b : List ByteArray) : signsOk (script a b) := (script_facts _ a b rfl).2.2.2
end Go.Proofs.YtjiaidchcldocaaGreatDoor
namespace Go.Proofs.YtjiaidchcldocaaGreatDoor
open Go.RowKit

def checkedFault (l m : List ByteArray) : Int := if linesFault l = 0 then linesFault m else linesFault l
theorem linesFault_len {l : List ByteArray} (h : linesFault l = 0) : l.length ≤ 60 := by
  unfold linesFault at h
  by_cases h1 : 60 < l.length
  · simp [h1] at h
  · omega
theorem checkedFault_zero {l m : List ByteArray} : checkedFault l m = 0 ↔ linesFault l = 0 ∧ linesFault m = 0 := by
  unfold checkedFault
  by_cases h : linesFault l = 0 <;> simp [h]

theorem checked_any (l m : List ByteArray) (v u : Value) (w : World) (h : Rdv w Never v l) (g : Rdv w Never u m) :
    Calls Tryz.prog 161 #[v, u] w fun e w' => e = .returned (errV (checkedFault l m)) ∧ w = w' := by
  by_cases hz : linesFault l = 0
  · go_enter Tryz.func161, Tryz.ntmps161
    go_wp2_with fail
    refine (check_any l _ _ h).mono ?_
    rintro e w' ⟨rfl, rfl⟩
    rw [hz, errV_zero]
    go_wp2_with fail
    refine (check_any m _ _ g).mono ?_
    rintro e w' ⟨rfl, rfl⟩
    go_wp2_with fail
    go_ret
    exact ⟨by unfold checkedFault; rw [if_pos hz]; rfl, rfl⟩
  · go_enter Tryz.func161, Tryz.ntmps161
    go_wp2_with fail
    refine (check_any l _ _ h).mono ?_
    rintro e w' ⟨rfl, rfl⟩
    rw [errV_pos hz]
    go_wp2_with fail
    go_ret
    exact ⟨by unfold checkedFault; rw [if_neg hz, errV_pos hz]; rfl, rfl⟩

def zeros : Array Value := Array.replicate 3721 (.int .i64 0)
theorem zero_table (w : World) : (zeroValue 289).run Tryz.prog w = .ok (.agg zeros) w := by kernel_rfl

/-- the table at block T holds the distances of all places behind (x, y) -/
def Fil (T : Nat) (wr : World) (l m : List ByteArray) (x y : Int) : Prop :=
  ∃ c : Array Value, wr.heap[T]? = some (.cells c 289 (0, 0)) ∧ c.size = 3721 ∧ (∀ j, j < 3721 → ∃ n, c[j]? = some (.int .i64 n)) ∧
    ∀ i k : Nat, i ≤ l.length → k ≤ m.length → (x < i ∨ (x = i ∧ y < k)) → c[i * 61 + k]? = some (.int .i64 (far (l.drop i) (m.drop k)))

theorem Fil.cell {T : Nat} {wr : World} {l m : List ByteArray} {x y : Int} (h : Fil T wr l m x y) {i k : Nat} (hi : i ≤ l.length) (hk : k ≤ m.length) (hp : x < i ∨ (x = i ∧ y < k)) :
    wr.cell? ⟨T, i * 61 + k, none⟩ = some (.int .i64 (far (l.drop i) (m.drop k))) := by
  obtain ⟨c, h1, h2, h3, h4⟩ := h
  simp only [World.cell?, h1]
  exact h4 i k hi hk hp
theorem Fil.any {T : Nat} {wr : World} {l m : List ByteArray} {x y : Int} (h : Fil T wr l m x y) {j : Nat} (hj : j < 3721) :
    ∃ n, wr.cell? ⟨T, j, none⟩ = some (.int .i64 n) := by
  obtain ⟨c, h1, h2, h3, h4⟩ := h
  simp only [World.cell?, h1]
  exact h3 j hj
theorem Fil.free {T : Nat} {wr : World} {l m : List ByteArray} {x y : Int} (h : Fil T wr l m x y) (j : Nat) : wr.frozen? ⟨T, j, none⟩ = false := by
  obtain ⟨c, h1, h2, h3, h4⟩ := h
  simp [World.frozen?, h1]

theorem Fil.set {T : Nat} {wr : World} {l m : List ByteArray} {i k : Nat} (h : Fil T wr l m i k) (hl : l.length ≤ 60) (hm : m.length ≤ 60) (hi : i ≤ l.length) (hk : k ≤ m.length) {n : Int} (hn : n = far (l.drop i) (m.drop k)) :
    Fil T (wr.setCell ⟨T, i * 61 + k, none⟩ (.int .i64 n)) l m i ((k : Int) - 1) := by
  obtain ⟨c, h1, h2, h3, h4⟩ := h
  refine ⟨c.setIfInBounds (i * 61 + k) (.int .i64 n), ?_, by simpa using h2, ?_, ?_⟩
  · simp [World.setCell, Array.getElem?_modify, h1]
  · intro j hj
    by_cases e : i * 61 + k = j
    · exact ⟨n, by rw [Array.getElem?_setIfInBounds, if_pos e, if_pos (by omega)]⟩
    · obtain ⟨n', hn'⟩ := h3 j hj
      exact ⟨n', by rw [Array.getElem?_setIfInBounds, if_neg e]; exact hn'⟩
  · intro i' k' hi' hk' hp
    by_cases e : i * 61 + k = i' * 61 + k'
    · have e1 : i' = i := by omega
      have e2 : k' = k := by omega
      subst e1 e2
      rw [Array.getElem?_setIfInBounds, if_pos e, if_pos (by omega), hn]
    · rw [Array.getElem?_setIfInBounds, if_neg e]
      refine h4 i' k' hi' hk' ?_
      rcases hp with hp | ⟨hp, hq⟩
      · exact .inl hp
      · rcases Int.lt_or_le k k' with h5 | h5
        · exact .inr ⟨hp, h5⟩
        · exact absurd (by omega) e

theorem Fil.drewN {T : Nat} {wr : World} {l m : List ByteArray} {x y : Int} (h : Fil T wr l m x y) (n : Nat) : Fil T (wr.drewN n) l m x y := h
theorem Fil.drew {T : Nat} {wr : World} {l m : List ByteArray} {x y : Int} (h : Fil T wr l m x y) : Fil T wr.drew l m x y := h

theorem Fil.start (w : World) (l m : List ByteArray) : Fil w.heap.size (w.alloc (.cells zeros 289)) l m l.length m.length := by
  refine ⟨zeros, heap_alloc_new _ _, by simp [zeros], ?_, ?_⟩
  · intro j hj
    exact ⟨0, by simp [zeros, hj]⟩
  · intro i k hi hk hp
    omega
theorem Fil.row {T : Nat} {wr : World} {l m : List ByteArray} {i : Nat} (h : Fil T wr l m i (-1)) : Fil T wr l m ((i : Int) - 1) m.length := by
  obtain ⟨c, h1, h2, h3, h4⟩ := h
  refine ⟨c, h1, h2, h3, ?_⟩
  intro i' k' hi' hk' hp
  refine h4 i' k' hi' hk' ?_
  omega

theorem far_end_l {l m : List ByteArray} {i k : Nat} (hi : i = l.length) (hk : k ≤ m.length) : (m.length : Int) - k = far (l.drop i) (m.drop k) := by
  rw [hi, List.drop_length, far_nil, List.length_drop]; omega
theorem far_end_m {l m : List ByteArray} {i k : Nat} (hk : k = m.length) (hi : i ≤ l.length) : (l.length : Int) - i = far (l.drop i) (m.drop k) := by
  rw [hk, List.drop_length, far_nil', List.length_drop]; omega
theorem far_eq {l m : List ByteArray} {i k : Nat} {x : ByteArray} (hx : l[i]? = some x) (hy : m[k]? = some x) : far (l.drop i) (m.drop k) = far (l.drop (i + 1)) (m.drop (k + 1)) := by
  rw [drop_eq hx, drop_eq hy, far_same]
theorem far_ne {l m : List ByteArray} {i k : Nat} {x y : ByteArray} (hx : l[i]? = some x) (hy : m[k]? = some y) (h : x ≠ y) :
    far (l.drop i) (m.drop k) = 1 + min (far (l.drop (i + 1)) (m.drop k)) (far (l.drop i) (m.drop (k + 1))) := by
  rw [drop_eq hx, drop_eq hy, far_cons, if_neg h, ← drop_eq hx, ← drop_eq hy]
theorem far_lt {l m : List ByteArray} (hl : l.length ≤ 60) (hm : m.length ≤ 60) (i k : Nat) : far (l.drop i) (m.drop k) ≤ 120 := by
  have := far_le (l.drop i) (m.drop k)
  simp only [List.length_drop] at this
  omega

set_option maxHeartbeats 800000 in
set_option maxRecDepth 100000 in
theorem measure_any (l m : List ByteArray) (v u : Value) (w : World) (h : Rdv w Never v l) (g : Rdv w Never u m) (hl : l.length ≤ 60) (hm : m.length ≤ 60) :
    Calls Tryz.prog 162 #[v, u] w fun e w' => e = .returned (.pointer (some ⟨w.heap.size, 0, none⟩)) ∧ Chg Never w w' ∧ Fil w.heap.size w' l m (-1) m.length := by
  obtain ⟨a, cap, rfl, h1, h2, h3⟩ := rdv_slice h
  obtain ⟨c, cap', rfl, g1, g2, g3⟩ := rdv_slice g
  unfold maxLen at h2 g2
  have hzt := zero_table
  go_enter Tryz.func162, Tryz.ntmps162
  go_wp2_with fail
  go_loopw [6, 7] (fun s6 s7 wr => ∃ x : Int, -1 ≤ x ∧ x ≤ l.length ∧ s6 = .int .i64 x ∧ Chg Never w wr ∧ Fil w.heap.size wr l m x m.length) (fun s6 _ _ => (intOf s6 + 1).toNat)
  case atStart => exact ⟨l.length, by omega, Int.le_refl _, rfl, (Chg.refl _ _).alloc _, Fil.start _ _ _⟩
  case round =>
    obtain ⟨x, hx1, hx2, rfl, hc, hF⟩ := hrel
    by_cases hx : 0 ≤ x
    · obtain ⟨i, rfl⟩ := Int.eq_ofNat_of_zero_le hx
      go_wp2_with fail
      go_loopw [7] (fun s7 wr' => ∃ y : Int, -1 ≤ y ∧ y ≤ m.length ∧ s7 = .int .i64 y ∧ Chg Never w wr' ∧ Fil w.heap.size wr' l m i y) (fun s7 _ => (intOf s7 + 1).toNat)
      case atStart => exact ⟨m.length, by omega, Int.le_refl _, rfl, hc, hF⟩
      case round =>
        rename_i wo _
        clear hF hc
        obtain ⟨y, hy1, hy2, rfl, hc, hF⟩ := hrel
        by_cases hy : 0 ≤ y
        · obtain ⟨k, rfl⟩ := Int.eq_ofNat_of_zero_le hy
          obtain ⟨n0, hn0⟩ := hF.any (j := i * 61 + k) (by omega)
          have hfr := hF.free (i * 61 + k)
          by_cases hil : i = l.length
          · have t1 : ((i : Int) == l.length) = true := by simp [hil]
            have HI := Lib.hid hil
            clear hil
            go_wp2_with fail
            go_roundw
            case rel => exact ⟨(k : Int) - 1, by omega, by omega, rfl, hc.setCell (.inl (Nat.le_refl _)) _, hF.set hl hm (by omega) (by omega) (far_end_l HI.out (by omega))⟩
            case measure => simp [intOf] <;> omega
          · have t1 : ((i : Int) == l.length) = false := by simp; omega
            by_cases hkm : k = m.length
            · have t2 : ((k : Int) == m.length) = true := by simp [hkm]
              have HK := Lib.hid hkm
              clear hkm
              go_wp2_with fail
              go_roundw
              case rel => exact ⟨(k : Int) - 1, by omega, by omega, rfl, hc.setCell (.inl (Nat.le_refl _)) _, hF.set hl hm (by omega) (by omega) (far_end_m HK.out (by omega))⟩
              case measure => simp [intOf] <;> omega
            · have t2 : ((k : Int) == m.length) = false := by simp; omega
              have b1 : (i : Int) < l.length := by omega
              have b2 : (k : Int) < m.length := by omega
              have b3 : i < l.length := by omega
              have b4 : k < m.length := by omega
              clear hil hkm
              obtain ⟨s, hs⟩ : ∃ s, l[i]? = some s := ⟨l[i], by simp [b3]⟩
              obtain ⟨t, ht⟩ : ∃ t, m[k]? = some t := ⟨m[k], by simp [b4]⟩
              obtain ⟨b, off, rfl, _, hbl, hcx, hxs⟩ := elems_str h3 hs
              obtain ⟨b', off', rfl, _, hbl', hcy, hys⟩ := elems_str g3 ht
              have hcx := hc.cellNever hcx
              have hcy := hc.cellNever hcy
              have HS := Lib.hid hs
              have HT := Lib.hid ht
              clear h3 g3 h g hs ht
              have c1 := hF.cell (i := i + 1) (k := k + 1) (by omega) (by omega) (by omega)
              have c2 := hF.cell (i := i + 1) (k := k) (by omega) (by omega) (by omega)
              have c3 := hF.cell (i := i) (k := k + 1) (by omega) (by omega) (by omega)
              have f2 := far_lt hl hm (i + 1) k
              have f3 := far_lt hl hm i (k + 1)
              by_cases hst : s = t
              · subst hst
                go_wp2_with fail
                go_quiet (fail)
                go_wp2_with fail
                generalize hw2 : World.drewN wr _ = w2
                have hc2 : Chg Never w w2 := hw2 ▸ hc.drewN _
                have hF2 : Fil w.heap.size w2 l m i k := hw2 ▸ hF.drewN _
                have hfr2 := hF2.free (i * 61 + k)
                have hn2 : w2.cell? ⟨w.heap.size, i * 61 + k, none⟩ = some (.int .i64 n0) := hw2 ▸ hn0
                have c1 := hF2.cell (i := i + 1) (k := k + 1) (by omega) (by omega) (by omega)
                have c2 := hF2.cell (i := i + 1) (k := k) (by omega) (by omega) (by omega)
                have c3 := hF2.cell (i := i) (k := k + 1) (by omega) (by omega) (by omega)
                clear hw2 hfr hn0 hc hF
                have e1 : IntKind.i64.wrap ((i : Int) + 1) = (i : Int) + 1 := IntWalk.i64_in _ (by omega)
                have e2 : IntKind.i64.wrap ((k : Int) + 1) = (k : Int) + 1 := IntWalk.i64_in _ (by omega)
                have e3 : (0 : Int) ≤ (i : Int) + 1 := by omega
                have e4 : (0 : Int) ≤ (k : Int) + 1 := by omega
                have e5 : (i : Int) + 1 < 61 := by omega
                have e6 : (k : Int) + 1 < 61 := by omega
                have e7 : ((i : Int) + 1).toNat = i + 1 := by omega
                have e8 : ((k : Int) + 1).toNat = k + 1 := by omega
                have e9 : (i : Int) < 61 := by omega
                have e10 : (k : Int) < 61 := by omega
                refine wp_region_still_tail 11 (by kernel_rfl) (by kernel_rfl) ?_
                simp only [List.take_succ_cons, List.take_zero, List.drop_succ_cons, List.drop_zero]
                change wpStill _ _ w2.drew _ _ _
                repeat still_step
                refine wpStill_nil ?_
                change wpList _ _ _ _ _ w2.drew
                have hn3 : w2.drew.cell? ⟨w.heap.size, i * 61 + k, none⟩ = some (.int .i64 n0) := hn2
                have hfr3 : w2.drew.frozen? ⟨w.heap.size, i * 61 + k, none⟩ = false := hfr2
                generalize hw3 : w2.drew = w3 at hn3 hfr3
                go_wp2_with fail
                clear e1 e2 e3 e4 e5 e6 e7 e8 e9 e10 c1 c2 c3
                have hc3 : Chg Never w w3 := hw3 ▸ hc2.drew
                have hF3 : Fil w.heap.size w3 l m i k := hw3 ▸ hF2.drew
                go_roundw
                case rel => exact ⟨(k : Int) - 1, by omega, by omega, rfl, hc3.setCell (.inl (Nat.le_refl _)) _, hF3.set hl hm (by omega) (by omega) (by rw [far_eq HS.out HT.out])⟩
                case measure => simp [intOf] <;> omega
              · have hne := str_beq_false hst
                go_wp2_with fail
                go_quiet (fail)
                go_wp2_with fail
                generalize hw2 : World.drewN wr _ = w2
                have hc2 : Chg Never w w2 := hw2 ▸ hc.drewN _
                have hF2 : Fil w.heap.size w2 l m i k := hw2 ▸ hF.drewN _
                have hfr2 := hF2.free (i * 61 + k)
                have hn2 : w2.cell? ⟨w.heap.size, i * 61 + k, none⟩ = some (.int .i64 n0) := hw2 ▸ hn0
                have c1 := hF2.cell (i := i + 1) (k := k + 1) (by omega) (by omega) (by omega)
                have c2 := hF2.cell (i := i + 1) (k := k) (by omega) (by omega) (by omega)
                have c3 := hF2.cell (i := i) (k := k + 1) (by omega) (by omega) (by omega)
                clear hw2 hfr hn0 hc hF
                have e1 : IntKind.i64.wrap ((i : Int) + 1) = (i : Int) + 1 := IntWalk.i64_in _ (by omega)
                have e2 : IntKind.i64.wrap ((k : Int) + 1) = (k : Int) + 1 := IntWalk.i64_in _ (by omega)
                have e3 : (0 : Int) ≤ (i : Int) + 1 := by omega
                have e4 : (0 : Int) ≤ (k : Int) + 1 := by omega
                have e5 : (i : Int) + 1 < 61 := by omega
                have e6 : (k : Int) + 1 < 61 := by omega
                have e7 : ((i : Int) + 1).toNat = i + 1 := by omega
                have e8 : ((k : Int) + 1).toNat = k + 1 := by omega
                have e9 : (i : Int) < 61 := by omega
                have e10 : (k : Int) < 61 := by omega
                refine wp_region_still_tail 18 (by kernel_rfl) (by kernel_rfl) ?_
                simp only [List.take_succ_cons, List.take_zero, List.drop_succ_cons, List.drop_zero]
                change wpStill _ _ w2.drew _ _ _
                repeat still_step
                refine wpStill_nil ?_
                change wpList _ _ _ _ _ w2.drew
                have hn3 : w2.drew.cell? ⟨w.heap.size, i * 61 + k, none⟩ = some (.int .i64 n0) := hn2
                have hfr3 : w2.drew.frozen? ⟨w.heap.size, i * 61 + k, none⟩ = false := hfr2
                generalize hw3 : w2.drew = w3 at hn3 hfr3
                go_wp2_with fail
                clear e1 e2 e3 e4 e5 e6 e7 e8 e9 e10 c1 c2 c3
                have hc3 : Chg Never w w3 := hw3 ▸ hc2.drew
                have hF3 : Fil w.heap.size w3 l m i k := hw3 ▸ hF2.drew
                go_roundw
                case rel => exact ⟨(k : Int) - 1, by omega, by omega, rfl, hc3.setCell (.inl (Nat.le_refl _)) _, hF3.set hl hm (by omega) (by omega) (by rw [far_ne HS.out HT.out hst]; omega)⟩
                case measure => simp [intOf] <;> omega
        · obtain rfl : y = -1 := by omega
          go_wp2_with fail
          go_roundw
          case rel => exact ⟨(i : Int) - 1, by omega, by omega, rfl, hc, hF.row⟩
          case measure => simp [intOf] <;> omega
    · obtain rfl : x = -1 := by omega
      go_wp2_with fail
      go_ret
      exact ⟨rfl, hc, hF⟩
end Go.Proofs.YtjiaidchcldocaaGreatDoor
namespace Go.Proofs.YtjiaidchcldocaaGreatDoor
open Go.RowKit

theorem own_block_lt {α : Type} [Dat α] {e : TypeId} {w : World} {O : Nat → Prop} {v : Value} {l : List α} (h : Own e w O v l) : ∀ k, v.ownBlock = some k → k < w.heap.size := by
  obtain ⟨xs, h1, _⟩ := h
  exact fun k hk => (h1.lt k hk).2

theorem Own.keep {α : Type} [Dat α] {e : TypeId} {w w' : World} {O O' O'' : Nat → Prop} {v : Value} {l : List α} (h : Own e w O v l) (hc : Chg O' w w')
    (h1 : ∀ k, k < w.heap.size → O' k → O k) (h2 : ∀ k, k < w.heap.size → O'' k → O k) : Own e w' O'' v l := by
  obtain ⟨xs, hx, hb, hel⟩ := h
  have hlt := fun k hk => (hx.lt k hk).2
  refine ⟨xs, ?_, fun k hk ho => hb k hk (h2 k (hlt k hk) ho), ?_⟩
  · refine ⟨hx.1, ?_⟩
    rcases hx.2 with h | ⟨g, cap, cur, rfl, hg, hh, r⟩
    · exact .inl h
    · refine .inr ⟨g, cap, cur, rfl, hg, ?_, r⟩
      rw [hc.block g (hlt g rfl) (fun ho => hb g rfl (h1 g (hlt g rfl) ho))]
      exact hh
  · intro i x hi
    refine Dat.keep (hel i x hi) hc (fun k hk ho => .inl (h1 k hk ho)) ?_
    rintro k hk (ho | ho)
    · exact .inl (h2 k hk ho)
    · exact .inr ho
theorem Own.never {α : Type} [Dat α] {e : TypeId} {w w' : World} {O : Nat → Prop} {v : Value} {l : List α} (h : Own e w O v l) (hc : Chg Never w w') : Own e w' O v l :=
  h.keep hc (fun _ _ h => h.elim) (fun _ _ h => h)

/-- an owned slice reads as any other -/
theorem Own.rdv {α : Type} [Dat α] {e : TypeId} {w : World} {O : Nat → Prop} {v : Value} {l : List α} (h : Own e w O v l) : Rdv w O v l := by
  obtain ⟨xs, hx, hb, hel⟩ := h
  have hlen := hx.1
  rcases hx.2 with ⟨rfl, h0⟩ | ⟨g, cap, cur, rfl, hg, hh, hn, hm, hcs, htake⟩
  · have : l = [] := List.eq_nil_of_length_eq_zero h0
    subst this
    exact rdv_nil _ _
  · refine ⟨some ⟨g, 0, none⟩, cap, rfl, hn, hm, ?_⟩
    intro i x hi
    have hil := (List.getElem?_eq_some_iff.1 hi).1
    have hel' := hel i x hi
    have hel2 : Dat.rd w O _ x := Dat.keep hel' (Chg.refl Never w) (fun _ _ h => h.elim) (fun k _ ho => .inl ho)
    refine ⟨g, 0, _, rfl, hb g rfl, ?_, hel2⟩
    intro j u hj
    have hcell := World.ownsRow.cells hx (g := g) rfl (i * Dat.n α + j) u ?_
    · rw [← hcell]
      unfold Addr.add
      split <;> simp_all
    · rw [List.getElem?_take] at hj
      split at hj
      · rw [List.getElem?_drop] at hj; exact hj
      · cases hj

theorem append_block {P : Program} (w : World) (base : Nat) (t ty e : TypeId) (i : TypeInfo) (z : Value) (size bytes : Nat) (ht : P.underlying t = some (.slice e)) (hi : P.info? e = some i) (hz : i.zero = some z)
    (hsize : i.size = size) (hby : i.bytes = bytes)
    (v : Value) (n : Nat) (xs : List Value) (hown : w.ownsRow base e size v n xs)
    (a : Addr) (m c : Nat) (news : List Value) (hl : news.length = m * size) (hnews : ∀ j u, news[j]? = some u → w.cell? (a.add j) = some u) (h1 : ∀ u ∈ news, u.oneCell' = true)
    (h63 : n + m ≤ maxLen) (hbytes : (n + m) * bytes ≤ 140737488355328) (hm : m ≠ 0) {v' : Value} {w' : World} (hrun : (Builtin.append_ #[t, t] ty #[v, .slice (some a) m c]).run P w = .ok v' w') :
    ∃ k, v'.ownBlock = some k ∧ (v.ownBlock = some k ∨ k = w.heap.size) := by
  subst hsize
  subst hby
  have hsmall : n + m ≤ 9223372036854775807 := by simp only [maxLen] at h63; omega
  rcases hown.2 with ⟨rfl, rfl⟩ | ⟨g, cap, cur, rfl, hbg, hg, hnc, hcm, hcs, htake⟩
  · have hr := run_append_nil (P := P) w t ty e i z ht hi hz a m c news hl hnews (by omega) (by omega) (by have hb := hbytes; simp only [Nat.zero_add] at hb; omega)
    rw [hr] at hrun
    injection hrun with hv _
    subst hv
    exact ⟨_, rfl, .inr rfl⟩
  · by_cases hroom : n + m ≤ cap
    · have hfit : n * i.size + news.length ≤ cur.size := by rw [hl, hcs, ← Nat.add_mul]; exact Nat.mul_le_mul_right _ hroom
      have hr := run_append_room (P := P) w t ty e i ht hi g n cap cur hg a m c news hl hnews h1 hroom hfit
      rw [hr] at hrun
      injection hrun with hv _
      subst hv
      exact ⟨_, rfl, .inl rfl⟩
    · have holds : ∀ j u, xs[j]? = some u → w.cell? ((⟨g, 0, none⟩ : Addr).add j) = some u := hown.cells (g := g) rfl
      have hr := run_append_grow (P := P) w t ty e i z ht hi hz ⟨g, 0, none⟩ n cap xs hown.1 holds a m c news hl hnews (by omega) (by omega) (growslice_fits (by omega) hbytes)
      rw [hr] at hrun
      injection hrun with hv _
      subst hv
      exact ⟨_, rfl, .inr rfl⟩

/-- what a slice's element type asks of the program's table -/
structure ElemOk (P : Program) (t e : TypeId) (n : Nat) : Prop where
  ht : P.underlying t = some (.slice e)
  info : ∃ i z, P.info? e = some i ∧ i.zero = some z ∧ i.size = n ∧ z.cells.size = n ∧ i.bytes ≤ 128

theorem run_push {P : Program} {α : Type} [Dat α] {t ty e : TypeId} (hP : ElemOk P t e (Dat.n α)) {w0 : World} {O : Nat → Prop} {v : Value} {l : List α} {y : α} {es : List Value} (E' : TypeId)
    (hown : Own e w0 O v l) (hy : Dat.rd w0 (fun k => O k ∨ v.ownBlock = some k) es y) (hO : ∀ k, O k → k < w0.heap.size) (hlen : l.length ≤ 1000000000) :
    ∃ v' w', (Builtin.append_ #[t, t] ty #[v, .slice (some ⟨w0.heap.size, 0, none⟩) 1 1]).run P (w0.alloc (.cells es.toArray E')) = .ok v' w' ∧ Own e w' O v' (l ++ [y]) ∧ Chg (OwnB v) w0 w' ∧ (∃ k, v'.ownBlock = some k ∧ (v.ownBlock = some k ∨ w0.heap.size ≤ k)) := by
  obtain ⟨i, z, hi, hz, hsz, hzs, hby⟩ := hP.info
  have hlt := own_block_lt hown
  obtain ⟨xs, hx, hb, hel⟩ := id hown
  have hnl : es.length = 1 * Dat.n α := by rw [Dat.len hy]; omega
  have hpos := Dat.pos (α := α)
  have hcells : ∀ j u, es[j]? = some u → (w0.alloc (.cells es.toArray E')).cell? ((⟨w0.heap.size, 0, none⟩ : Addr).add j) = some u := by
    intro j u hj
    have e1 : (⟨w0.heap.size, 0, none⟩ : Addr).add j = ⟨w0.heap.size, j, none⟩ := by unfold Addr.add; split <;> simp_all
    rw [e1, World.cell?, heap_alloc_new]
    simpa using hj
  have hx' := hx.alloc (.cells es.toArray E')
  have hbound : (l.length + 1) * i.bytes ≤ 140737488355328 := by
    have := Nat.mul_le_mul (show l.length + 1 ≤ 1000000001 by omega) hby
    omega
  obtain ⟨v', w', hrun, hown', hgrow, hnil⟩ := run_append_own (P := P) (w0.alloc (.cells es.toArray E')) 0 t ty e i z (Dat.n α) i.bytes hP.ht hi hz hsz rfl hzs hpos v l.length xs hx'
    ⟨w0.heap.size, 0, none⟩ 1 1 es hnl hcells (Dat.one hy) (by unfold maxLen; omega) hbound (Nat.zero_le _)
  obtain ⟨kb, hkb, hkb'⟩ := append_block (P := P) (w0.alloc (.cells es.toArray E')) 0 t ty e i z (Dat.n α) i.bytes hP.ht hi hz hsz rfl v l.length xs hx'
    ⟨w0.heap.size, 0, none⟩ 1 1 es hnl hcells (Dat.one hy) (by unfold maxLen; omega) hbound (by omega) hrun
  have hkb2 : v.ownBlock = some kb ∨ w0.heap.size ≤ kb := by
    rcases hkb' with h | h
    · exact .inl h
    · right; rw [h]; simp
  have hc : Chg (OwnB v) w0 w' := ((Chg.refl (OwnB v) w0).alloc _).trans' (Chg.of_grown hgrow) (fun k _ hk => hk)
  refine ⟨v', w', hrun, ⟨xs ++ es, ?_, ?_, ?_⟩, hc, kb, hkb, hkb2⟩
  · simpa using hown'
  · intro k hk ho
    rw [hkb] at hk
    injection hk with hk
    subst hk
    rcases hkb2 with h | h
    · exact hb _ h ho
    · exact absurd (hO _ ho) (by omega)
  · have hsub : ∀ k, k < w0.heap.size → (O k ∨ v'.ownBlock = some k) → (O k ∨ v.ownBlock = some k) := by
      rintro k hk (h | h)
      · exact .inl h
      · rw [hkb] at h
        injection h with h
        subst h
        rcases hkb2 with h | h
        · exact .inr h
        · omega
    intro j x hj
    have hxl := hx.1
    rcases Nat.lt_or_ge j l.length with hjl | hjl
    · rw [List.getElem?_append_left hjl] at hj
      have h := Dat.keep (hel j x hj) hc (fun k _ hk => .inr hk) hsub
      have hle : j * Dat.n α + Dat.n α ≤ xs.length := by rw [hxl, ← Nat.succ_mul]; exact Nat.mul_le_mul_right _ hjl
      rw [List.drop_append_of_le_length (by omega), List.take_append_of_le_length (by rw [List.length_drop]; omega)]
      exact h
    · have e : j = l.length := by
        have := (List.getElem?_eq_some_iff.1 hj).1
        simp at this
        omega
      subst e
      simp at hj
      subst hj
      rw [← hxl, List.drop_left, List.take_of_length_le (by omega)]
      exact Dat.keep hy hc (fun k _ hk => .inr hk) hsub

/-- 'out = append(out, y)': y's cells have just been laid in a block of their own -/
theorem wpList_push {P : Program} {ops : Array Oper} {rest : List Oper} {o : Oper} {a : Act} {Q : Exit → Act → World → Prop} (hgd : o.guard = none) (s x : Operand) (t : TypeId)
    (ho : o.op = .call { callee := .builtin .append, args := #[s, x], argTypes := #[t, t] }) {α : Type} [Dat α] {e : TypeId} (hP : ElemOk P t e (Dat.n α)) {w0 : World} {O : Nat → Prop} {v : Value} {l : List α} {y : α} {es : List Value} {E' : TypeId} {B : Nat}
    (hs : a.eval s = v) (hx : a.eval x = .slice (some ⟨B, 0, none⟩) 1 1) (hB : B = w0.heap.size)
    (hown : Own e w0 O v l) (hy : Dat.rd w0 (fun k => O k ∨ v.ownBlock = some k) es y) (hO : ∀ k, O k → k < w0.heap.size) (hlen : l.length ≤ 1000000000)
    (h : ∀ v' w', Own e w' O v' (l ++ [y]) → Chg (OwnB v) w0 w' → (∃ k, v'.ownBlock = some k ∧ (v.ownBlock = some k ∨ w0.heap.size ≤ k)) → wpList P ops Q rest (a.put o.dst v') w') :
    wpList P ops Q (o :: rest) a (w0.alloc (.cells es.toArray E')) := by
  subst hB
  refine wpList_plain hgd fun K hK => ?_
  obtain ⟨v', w', hrun, h1, h2, h3⟩ := run_push (ty := o.type) hP E' hown hy hO hlen
  unfold Oper.wp execOp
  simp only [ho, resolve, invoke, builtin, Sem.run_bind, Sem.run_pure, Result.andThen_ok, List.map_toArray, List.map_cons, List.map_nil, hs, hx, hrun]
  exact hK _ _ (h v' w' h1 h2 h3)

theorem elemOk_of {P : Program} {t e : TypeId} {n b : Nat} {z : Value} (ht : P.underlying t = some (.slice e)) (h : (P.info? e).map (fun i => (i.zero, i.size, i.bytes)) = some (some z, n, b)) (hz : z.cells.size = n) (hb : b ≤ 128) : ElemOk P t e n := by
  obtain ⟨i, h1, h2, h3, h4⟩ := info_parts h
  exact ⟨ht, i, z, h1, h2, h3, hz, by omega⟩

/-- a step that may have changed the call's own row leaves what was there before the call -/
theorem own_step {α : Type} [Dat α] {e : TypeId} {w wr w' : World} {v : Value} {l : List α} (hc : Chg Never w wr) (hown : Own e wr (Old w.heap.size) v l) (hc' : Chg (OwnB v) wr w') : Chg Never w w' := by
  refine hc.trans' hc' ?_
  intro i hi ho
  obtain ⟨xs, _, hb, _⟩ := hown
  exact (hb i ho hi).elim
theorem old_lt {w wr : World} (hc : Chg Never w wr) : ∀ k, Old w.heap.size k → k < wr.heap.size := fun _ hk => Nat.lt_of_lt_of_le hk hc.size
end Go.Proofs.YtjiaidchcldocaaGreatDoor
namespace Go.Proofs.YtjiaidchcldocaaGreatDoor
open Go.RowKit

theorem edit_check_any (l : List Mark) (v : Value) (w : World) (h : Rdv w Never v l) :
    Calls Tryz.prog 163 #[v] w fun e w' => e = .returned (errV (scriptFault l)) ∧ Chg Never w w' := by
  obtain ⟨a, cap, rfl, h1, h2, h3⟩ := rdv_slice h
  unfold maxLen at h2
  by_cases h4 : 120 < l.length
  · go_enter Tryz.func163, Tryz.ntmps163
    go_wp2
    go_ret
    exact ⟨by simp [scriptFault, h4, errV], Chg.refl _ _⟩
  · go_enter Tryz.func163, Tryz.ntmps163
    go_wp2
    go_loopw [12] (fun i wr => ∃ k : Nat, k ≤ l.length ∧ i = .int .i64 k ∧ Hid (firstOf markFault (l.drop k) = scriptFault l) ∧ Chg Never w wr) (fun i _ => l.length - (intOf i).toNat)
    case atStart => exact ⟨0, Nat.zero_le _, rfl, by simp [Hid, scriptFault, h4], Chg.refl _ _⟩
    case round =>
      obtain ⟨k, hk, rfl, hf, hc⟩ := hrel
      by_cases hlt : k < l.length
      · obtain ⟨x, hx⟩ : ∃ x, l[k]? = some x := ⟨l[k], by simp [hlt]⟩
        obtain ⟨b, off, rfl, _, _, c0, c1, s0, s1, hxs⟩ := elems_mark h3 hx
        have c0 := hc.cellNever c0
        have c1 := hc.cellNever c1
        have hd := Lib.hid (drop_eq hx)
        clear hx h3 h
        obtain ⟨sg, tx⟩ := x
        simp only at c0 c1 s0 s1 hxs
        by_cases hsg : sg = 32 ∨ sg = 45 ∨ sg = 43
        · have hmf : markFault ⟨sg, tx⟩ = lineFault tx := by rcases hsg with e | e | e <;> subst e <;> rfl
          have HM := Lib.hid hmf
          clear hmf
          by_cases hz : lineFault tx = 0
          · rcases hsg with rfl | rfl | rfl
            all_goals
              go_wp2_with (go_at_call 130; refine (one_any _ _ hxs).mono ?_; rintro e w' ⟨rfl, rfl⟩; rw [hz, errV_zero])
              go_roundw
              case rel => exact ⟨k + 1, by omega, by go_num, by have := hf.out; rw [hd.out, firstOf, HM.out, if_pos hz] at this; exact this, hc.alloc _⟩
              case measure => simp [intOf] <;> omega
          · rcases hsg with rfl | rfl | rfl
            all_goals
              go_wp2_with (go_at_call 130; refine (one_any _ _ hxs).mono ?_; rintro e w' ⟨rfl, rfl⟩; rw [errV_pos hz])
              go_ret
              have E : errV (scriptFault l) = errV (lineFault tx) := by rw [← hf.out, hd.out, firstOf, HM.out, if_neg hz]
              exact ⟨by rw [E, errV_pos hz]; rfl, hc.alloc _⟩
        · have t1 : (sg != 32) = true := by simp; omega
          have t2 : (sg != 45) = true := by simp; omega
          have t3 : (sg != 43) = true := by simp; omega
          have hmf : markFault ⟨sg, tx⟩ = 1 := by unfold markFault; rw [if_pos (by simp; omega)]
          have HM := Lib.hid hmf
          clear hmf hsg
          go_wp2_with fail
          go_ret
          have E : errV (scriptFault l) = errV 1 := by rw [← hf.out, hd.out, firstOf, HM.out, if_neg (by decide)]
          exact ⟨by rw [E]; rfl, hc.alloc _⟩
      · go_wp2
        go_ret
        exact ⟨by have := hf.out; rw [List.drop_of_length_le (by omega), firstOf] at this; rw [← this]; rfl, hc⟩

theorem elemOk_str : ElemOk Tryz.prog 86 9 1 := elemOk_of Tryz.underlying86 (z := .string ⟨#[]⟩) (b := 16) (by kernel_rfl) rfl (by decide)
theorem elemOk_mark : ElemOk Tryz.prog 127 126 2 := elemOk_of Tryz.underlying127 (z := .agg #[.int .u8 0, .string ⟨#[]⟩]) (b := 24) (by kernel_rfl) rfl (by decide)

theorem those_take {l : List Mark} {no : Int} {k : Nat} {x : Mark} (hx : l[k]? = some x) : those (l.take (k + 1)) no = if x.sign = no then those (l.take k) no else those (l.take k) no ++ [x.text] := by
  rw [List.take_add_one, hx]
  unfold those
  by_cases h : x.sign = no <;> simp [List.filter_append, h]
theorem those_le (l : List Mark) (no : Int) : (those l no).length ≤ l.length := by
  unfold those
  rw [List.length_map]
  exact List.length_filter_le _ _
theorem scriptFault_len {l : List Mark} (h : scriptFault l = 0) : l.length ≤ 120 := by
  unfold scriptFault at h
  by_cases h1 : 120 < l.length
  · simp [h1] at h
  · omega

/-- the lines of a script that may be; of another one none -/
def thoseR (l : List Mark) (no : Int) : List ByteArray := if scriptFault l = 0 then those l no else []

theorem those_any (l : List Mark) (no : Int) (v : Value) (w : World) (h : Rdv w Never v l) :
    Calls Tryz.prog 213 #[v, .int .u8 no] w fun e w' => ∃ r, e = .returned (.tuple #[r, errV (scriptFault l)]) ∧ Chg Never w w' ∧ Rdv w' (Old w.heap.size) r (thoseR l no) := by
  by_cases hz : scriptFault l = 0
  · have hlen := scriptFault_len hz
    obtain ⟨a, cap, rfl, h1, h2, h3⟩ := rdv_slice h
    unfold maxLen at h2
    have HT : Hid (thoseR l no = those l no) := if_pos hz
    go_enter Tryz.func213, Tryz.ntmps213
    go_wp2_with fail
    refine (edit_check_any l _ _ h).mono ?_
    rintro e w1 ⟨rfl, hc1⟩
    rw [hz, errV_zero]
    have HZ := Lib.hid hz
    clear hz
    go_wp2_with fail
    go_loopw [7, 17] (fun o i wr => ∃ k : Nat, k ≤ l.length ∧ i = .int .i64 k ∧ Chg Never w wr ∧ Own 9 wr (Old w.heap.size) o (those (l.take k) no)) (fun _ i _ => l.length - (intOf i).toNat)
    case atStart => exact ⟨0, Nat.zero_le _, rfl, hc1, own_nil _ _ _⟩
    case round =>
      obtain ⟨k, hk, rfl, hc, hown⟩ := hrel
      by_cases hlt : k < l.length
      · obtain ⟨x, hx⟩ : ∃ x, l[k]? = some x := ⟨l[k], by simp [hlt]⟩
        obtain ⟨b, off, rfl, _, _, c0, c1, s0, s1, hxs⟩ := elems_mark h3 hx
        have c0 := hc.cellNever c0
        have c1 := hc.cellNever c1
        have ht := Lib.hid (those_take (no := no) hx)
        have hle := those_le (l.take k) no
        have hle2 : (l.take k).length ≤ 120 := by simp; omega
        clear hx h3 h
        obtain ⟨sg, tx⟩ := x
        simp only at c0 c1 s0 s1 hxs
        by_cases hs : sg = no
        · have t1 : (sg != no) = false := by simp [hs]
          have HS := Lib.hid hs
          clear hs hle hle2
          go_wp2_with fail
          go_roundw
          case rel => exact ⟨k + 1, by omega, by go_num, hc.alloc _, by rw [ht.out, if_pos HS.out]; exact hown.never ((Chg.refl _ _).alloc _)⟩
          case measure => simp [intOf] <;> omega
        · have t1 : (sg != no) = true := by simp [hs]
          have HS := Lib.hid hs
          clear hs
          go_wp2_with (at_builtin; refine wpList_push rfl _ _ 86 rfl elemOk_str (O := Old w.heap.size) (l := those (l.take k) no) (y := tx) rfl rfl (by simp) (hown.never ((Chg.refl _ _).alloc _)) ⟨rfl, hxs⟩ (old_lt (hc.alloc _)) (by omega) ?_; intro v' w2 hown2 hc2 _)
          have hc3 := own_step (hc.alloc _) (hown.never ((Chg.refl _ _).alloc _)) hc2
          clear hc2 hle hle2
          go_wp2_with fail
          go_roundw
          case rel => exact ⟨k + 1, by omega, by go_num, hc3, by rw [ht.out, if_neg HS.out]; exact hown2⟩
          case measure => simp [intOf] <;> omega
      · go_wp2_with fail
        go_ret2
        refine ⟨_, by rw [HZ.out]; rfl, hc, ?_⟩
        rw [HT.out]
        rw [List.take_of_length_le (by omega)] at hown
        exact hown.rdv
  · go_enter Tryz.func213, Tryz.ntmps213
    go_wp2_with fail
    refine (edit_check_any l _ _ h).mono ?_
    rintro e w1 ⟨rfl, hc1⟩
    rw [errV_pos hz]
    go_wp2_with fail
    go_ret2
    exact ⟨.slice none 0 0, by rw [errV_pos hz]; rfl, hc1, by unfold thoseR; rw [if_neg hz]; exact rdv_nil _ _⟩
end Go.Proofs.YtjiaidchcldocaaGreatDoor
