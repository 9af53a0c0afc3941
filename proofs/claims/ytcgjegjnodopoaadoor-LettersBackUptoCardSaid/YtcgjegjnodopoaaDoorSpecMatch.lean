/-
  WHICH IS WHICH, in plain Lean: what the program chooses is what the document chooses, and none is cheaper.
  Rows of costs; `left`: which columns are left.
-/
import Init
namespace Go.Proofs.YtcgjegjnodopoaaDoor

def delC (left : Nat → Bool) (k : Nat) : Nat → Bool := fun j => left j && j != k
/-- the least of what is left below k; -1 for none -/
def minGo (f : Nat → Int) (left : Nat → Bool) : Nat → Int
  | 0 => -1
  | k + 1 => if left k = true ∧ (minGo f left k < 0 ∨ f k < minGo f left k) then f k else minGo f left k
def outGo (f : Nat → Int) (g : Nat → List Int) (left : Nat → Bool) : Nat → List Int
  | 0 => []
  | k + 1 => if left k = true ∧ (minGo f left k < 0 ∨ f k < minGo f left k) then (k : Int) :: g k else outGo f g left k
/-- the least cost of rows of the columns left -/
def bestS : List (List Int) → (Nat → Bool) → Int
  | [], _ => 0
  | row :: rest, left => minGo (fun k => row.getD k 0 + bestS rest (delC left k)) left row.length
/-- what the program chooses -/
def chooseS : List (List Int) → (Nat → Bool) → List Int
  | [], _ => []
  | row :: rest, left => match (List.range row.length).find? (fun k => left k && row.getD k 0 + bestS rest (delC left k) == bestS (row :: rest) left) with
    | none => chooseS rest left
    | some k => (k : Int) :: chooseS rest (delC left k)
/-- what the document chooses -/
def refOut : List (List Int) → (Nat → Bool) → List Int
  | [], _ => []
  | row :: rest, left => outGo (fun k => row.getD k 0 + bestS rest (delC left k)) (fun k => refOut rest (delC left k)) left row.length
/-- how many are left below n -/
def cntL (left : Nat → Bool) : Nat → Nat
  | 0 => 0
  | n + 1 => cntL left n + (if left n = true then 1 else 0)

theorem cnt_del_out (left : Nat → Bool) {k : Nat} : ∀ (n : Nat), n ≤ k → cntL (delC left k) n = cntL left n
  | 0, _ => rfl
  | n + 1, h => by
    rw [cntL, cntL, cnt_del_out left n (by omega)]
    have : delC left k n = left n := by unfold delC; rw [show (n != k) = true by simp; omega, Bool.and_true]
    rw [this]
theorem cnt_del (left : Nat → Bool) {k : Nat} (hk : left k = true) : ∀ (n : Nat), k < n → cntL (delC left k) n + 1 = cntL left n
  | 0, h => absurd h (by omega)
  | n + 1, h => by
    rw [cntL, cntL]
    by_cases e : k = n
    · subst e
      rw [cnt_del_out left k (Nat.le_refl _), if_pos hk, if_neg (by unfold delC; simp)]
    · have : delC left k n = left n := by unfold delC; rw [show (n != k) = true by simp; omega, Bool.and_true]
      rw [this, ← cnt_del left hk n (by omega)]
      omega
theorem cnt_some {left : Nat → Bool} : ∀ {n : Nat}, 0 < cntL left n → ∃ j, j < n ∧ left j = true
  | 0, h => absurd h (by simp [cntL])
  | n + 1, h => by
    rw [cntL] at h
    by_cases e : left n = true
    · exact ⟨n, by omega, e⟩
    · rw [if_neg e] at h
      obtain ⟨j, q, r⟩ := cnt_some (n := n) (by omega)
      exact ⟨j, by omega, r⟩
theorem del_left {left : Nat → Bool} {k j : Nat} (h : delC left k j = true) : left j = true ∧ j ≠ k := by
  unfold delC at h
  simpa using h

theorem min_none {f : Nat → Int} {left : Nat → Bool} : ∀ {k : Nat}, (∀ j, j < k → left j = false) → minGo f left k = -1
  | 0, _ => rfl
  | k + 1, h => by
    rw [minGo, if_neg (by rw [h k (by omega)]; simp), min_none fun j q => h j (by omega)]
/-- the least is one of them, the first such; the choice is its -/
theorem min_first {f : Nat → Int} {left : Nat → Bool} (g : Nat → List Int) : ∀ {k : Nat}, (∀ j, j < k → left j = true → 0 ≤ f j) → (∃ j, j < k ∧ left j = true) →
    ∃ j, j < k ∧ left j = true ∧ minGo f left k = f j ∧ (∀ i, i < k → left i = true → f j ≤ f i) ∧ (∀ i, i < j → left i = true → f j < f i) ∧ outGo f g left k = (j : Int) :: g j
  | 0, _, h => by obtain ⟨j, q, _⟩ := h; omega
  | k + 1, hp, h => by
    by_cases hex : ∃ j, j < k ∧ left j = true
    · obtain ⟨j, q1, q2, q3, q4, q5, q6⟩ := min_first g (fun i q => hp i (by omega)) hex
      have hj := hp j (by omega) q2
      by_cases ht : left k = true ∧ f k < f j
      · refine ⟨k, by omega, ht.1, ?_, fun i qi li => ?_, fun i qi li => ?_, ?_⟩
        · rw [minGo, if_pos ⟨ht.1, .inr (by rw [q3]; exact ht.2)⟩]
        · by_cases e : i = k
          · subst e; exact Int.le_refl _
          · have := q4 i (by omega) li
            have := ht.2
            omega
        · have := q4 i qi li
          have := ht.2
          omega
        · rw [outGo, if_pos ⟨ht.1, .inr (by rw [q3]; exact ht.2)⟩]
      · have hn : ¬ (left k = true ∧ (minGo f left k < 0 ∨ f k < minGo f left k)) := by
          rintro ⟨a, b⟩
          rw [q3] at b
          rcases b with b | b
          · omega
          · exact ht ⟨a, b⟩
        refine ⟨j, by omega, q2, by rw [minGo, if_neg hn, q3], fun i qi li => ?_, q5, by rw [outGo, if_neg hn, q6]⟩
        by_cases e : i = k
        · subst e
          exact Int.not_lt.1 fun l => ht ⟨li, l⟩
        · exact q4 i (by omega) li
    · have hnone : ∀ j, j < k → left j = false := fun j q => by
        cases e : left j with
        | false => rfl
        | true => exact absurd ⟨j, q, e⟩ hex
      have hk : left k = true := by
        obtain ⟨j, q, l⟩ := h
        by_cases e : j = k
        · rw [← e]; exact l
        · rw [hnone j (by omega)] at l; cases l
      have hm : left k = true ∧ (minGo f left k < 0 ∨ f k < minGo f left k) := ⟨hk, .inl (by rw [min_none hnone]; decide)⟩
      refine ⟨k, by omega, hk, by rw [minGo, if_pos hm], fun i qi li => ?_, fun i qi li => ?_, by rw [outGo, if_pos hm]⟩
      · by_cases e : i = k
        · subst e; exact Int.le_refl _
        · rw [hnone i (by omega)] at li; cases li
      · rw [hnone i qi] at li; cases li

/-- rows that may be -/
def SqOk (n : Nat) (rows : List (List Int)) : Prop := ∀ row ∈ rows, row.length = n ∧ ∀ c ∈ row, 0 ≤ c
theorem sq_tail {n : Nat} {row : List Int} {rest : List (List Int)} (h : SqOk n (row :: rest)) : SqOk n rest := fun r hr => h r (List.mem_cons_of_mem _ hr)
theorem sq_at {n : Nat} {row : List Int} {rest : List (List Int)} (h : SqOk n (row :: rest)) (k : Nat) : 0 ≤ row.getD k 0 := by
  rw [List.getD_eq_getElem?_getD]
  cases e : row[k]? with
  | none => exact Int.le_refl _
  | some c => exact (h row (List.mem_cons_self ..)).2 c (List.mem_of_getElem? e)
theorem best_pos {n : Nat} : ∀ {rows : List (List Int)} {left : Nat → Bool}, SqOk n rows → rows.length ≤ cntL left n → 0 ≤ bestS rows left
  | [], _, _, _ => Int.le_refl _
  | row :: rest, left, h, hc => by
    have hl : row.length = n := (h row (List.mem_cons_self ..)).1
    simp only [List.length_cons] at hc
    have hp : ∀ j, j < row.length → left j = true → 0 ≤ row.getD j 0 + bestS rest (delC left j) := fun j q l => by
      have := sq_at h j
      have := best_pos (rows := rest) (left := delC left j) (sq_tail h) (by have := cnt_del left l n (by omega); omega)
      omega
    obtain ⟨j, q1, q2, q3, _⟩ := min_first (fun _ => []) hp (by rw [hl]; exact cnt_some (by omega))
    rw [bestS, q3]
    exact hp j q1 q2
/-- the step: the first column that is as cheap as can be -/
theorem best_step {n : Nat} {row : List Int} {rest : List (List Int)} {left : Nat → Bool} (h : SqOk n (row :: rest)) (hc : rest.length + 1 ≤ cntL left n) :
    ∃ j, j < n ∧ left j = true ∧ bestS (row :: rest) left = row.getD j 0 + bestS rest (delC left j) ∧ rest.length ≤ cntL (delC left j) n
      ∧ (∀ i, i < n → left i = true → bestS (row :: rest) left ≤ row.getD i 0 + bestS rest (delC left i))
      ∧ chooseS (row :: rest) left = (j : Int) :: chooseS rest (delC left j) ∧ refOut (row :: rest) left = (j : Int) :: refOut rest (delC left j) := by
  have hl : row.length = n := (h row (List.mem_cons_self ..)).1
  have hp : ∀ j, j < row.length → left j = true → 0 ≤ row.getD j 0 + bestS rest (delC left j) := fun j q l => by
    have := sq_at h j
    have := best_pos (rows := rest) (left := delC left j) (sq_tail h) (by have := cnt_del left l n (by omega); omega)
    omega
  obtain ⟨j, q1, q2, q3, q4, q5, q6⟩ := min_first (fun k => refOut rest (delC left k)) hp (by rw [hl]; exact cnt_some (by omega))
  have e : bestS (row :: rest) left = row.getD j 0 + bestS rest (delC left j) := by rw [bestS, q3]
  refine ⟨j, by omega, q2, e, by have := cnt_del left q2 n (by omega); omega, fun i qi li => by rw [e]; exact q4 i (by omega) li, ?_, by rw [refOut, q6]⟩
  have hf : (List.range row.length).find? (fun k => left k && row.getD k 0 + bestS rest (delC left k) == bestS (row :: rest) left) = some j := by
    rw [List.find?_range_eq_some]
    refine ⟨by rw [q2, e]; simp, List.mem_range.2 q1, fun i qi => ?_⟩
    cases li : left i with
    | false => rfl
    | true =>
      have := q5 i qi li
      rw [e]
      simp only [Bool.true_and, Bool.not_eq_true', beq_eq_false_iff_ne, ne_eq]
      omega
  rw [chooseS, hf]
/-- what the program chooses is what the document chooses -/
theorem choose_ref {n : Nat} : ∀ {rows : List (List Int)} {left : Nat → Bool}, SqOk n rows → rows.length ≤ cntL left n → chooseS rows left = refOut rows left
  | [], _, _, _ => rfl
  | row :: rest, left, h, hc => by
    obtain ⟨j, _, _, _, q4, _, q6, q7⟩ := best_step h (by simpa using hc)
    rw [q6, q7, choose_ref (sq_tail h) q4]
theorem choose_len {n : Nat} : ∀ {rows : List (List Int)} {left : Nat → Bool}, SqOk n rows → rows.length ≤ cntL left n → (chooseS rows left).length = rows.length
  | [], _, _, _ => rfl
  | row :: rest, left, h, hc => by
    obtain ⟨j, _, _, _, q4, _, q6, _⟩ := best_step h (by simpa using hc)
    rw [q6, List.length_cons, choose_len (sq_tail h) q4, List.length_cons]

/-! ### a choice's cost -/
/-- the sum of a choice: none if a column is none or was there -/
def costGo (n : Nat) : List (List Int) → List Int → List Int → Int → Option Int
  | _, [], _, s => some s
  | [], _ :: _, _, _ => none
  | row :: rest, k :: m, seen, s => if k < 0 ∨ (n : Int) ≤ k ∨ k ∈ seen then none else costGo n rest m (seen ++ [k]) (s + row.getD k.toNat 0)
def Seen (n : Nat) (left : Nat → Bool) (seen : List Int) : Prop := ∀ k, k < n → (left k = true ↔ (k : Int) ∉ seen)
theorem seen_del {n : Nat} {left : Nat → Bool} {seen : List Int} (h : Seen n left seen) (j : Nat) : Seen n (delC left j) (seen ++ [(j : Int)]) := fun k hk => by
  unfold delC
  have := h k hk
  simp only [Bool.and_eq_true, bne_iff_ne, ne_eq, List.mem_append, List.mem_singleton, not_or, this]
  exact ⟨fun ⟨a, b⟩ => ⟨a, by omega⟩, fun ⟨a, b⟩ => ⟨a, by omega⟩⟩
/-- none is cheaper -/
theorem cost_ge {n : Nat} : ∀ {rows : List (List Int)} {m seen : List Int} {left : Nat → Bool} {s t : Int}, SqOk n rows → rows.length ≤ cntL left n → rows.length = m.length → Seen n left seen →
    costGo n rows m seen s = some t → s + bestS rows left ≤ t
  | [], [], _, _, s, t, _, _, _, _, h => by
    rw [costGo] at h
    injection h with h
    rw [bestS]; omega
  | [], _ :: _, _, _, _, _, _, _, hl, _, _ => by simp at hl
  | _ :: _, [], _, _, _, _, _, _, hl, _, _ => by simp at hl
  | row :: rest, k :: m, seen, left, s, t, hs, hc, hl, hseen, h => by
    rw [costGo] at h
    by_cases hb : k < 0 ∨ (n : Int) ≤ k ∨ k ∈ seen
    · rw [if_pos hb] at h; cases h
    · rw [if_neg hb] at h
      obtain ⟨j, rfl⟩ : ∃ j : Nat, k = j := ⟨k.toNat, by omega⟩
      have hj : j < n := by omega
      have hlj : left j = true := (hseen j hj).2 fun q => hb (.inr (.inr q))
      obtain ⟨_, _, _, _, _, q, _⟩ := best_step hs (by simpa using hc)
      have q := q j hj hlj
      have := cost_ge (sq_tail hs) (by have := cnt_del left hlj n hj; simp at hc; omega) (by simpa using hl) (seen_del hseen j) h
      rw [show ((j : Int)).toNat = j from rfl] at this
      omega
/-- what is chosen costs the least -/
theorem cost_choose {n : Nat} : ∀ {rows : List (List Int)} {seen : List Int} {left : Nat → Bool} {s : Int}, SqOk n rows → rows.length ≤ cntL left n → Seen n left seen →
    costGo n rows (chooseS rows left) seen s = some (s + bestS rows left)
  | [], _, _, s, _, _, _ => by rw [chooseS, costGo, bestS, Int.add_zero]
  | row :: rest, seen, left, s, hs, hc, hseen => by
    obtain ⟨j, q1, q2, q3, q4, _, q6, _⟩ := best_step hs (by simpa using hc)
    rw [q6, costGo, if_neg (by
      rintro (e | e | e)
      · omega
      · omega
      · exact (hseen j q1).1 q2 e), cost_choose (sq_tail hs) q4 (seen_del hseen j), q3, show ((j : Int)).toNat = j from rfl]
    congr 1; omega

/-! ### a row that is dearer for all columns -/
def addRow : List (List Int) → Nat → Int → List (List Int)
  | [], _, _ => []
  | row :: rest, 0, b => row.map (· + b) :: rest
  | row :: rest, r + 1, b => row :: addRow rest r b
theorem add_len : ∀ (rows : List (List Int)) (r : Nat) (b : Int), (addRow rows r b).length = rows.length
  | [], _, _ => rfl
  | _ :: _, 0, _ => rfl
  | _ :: rest, r + 1, b => by rw [addRow, List.length_cons, List.length_cons, add_len rest r b]
theorem sq_add {n : Nat} {b : Int} (hb : 0 ≤ b) : ∀ {rows : List (List Int)} (r : Nat), SqOk n rows → SqOk n (addRow rows r b)
  | [], _, h => h
  | row :: rest, 0, h => fun x hx => by
    rcases List.mem_cons.1 hx with rfl | hx
    · refine ⟨by rw [List.length_map]; exact (h row (List.mem_cons_self ..)).1, fun c hc => ?_⟩
      obtain ⟨d, hd, rfl⟩ := List.mem_map.1 hc
      have := (h row (List.mem_cons_self ..)).2 d hd
      show 0 ≤ d + b
      omega
    · exact h x (List.mem_cons_of_mem _ hx)
  | row :: rest, r + 1, h => fun x hx => by
    rcases List.mem_cons.1 hx with rfl | hx
    · exact h x (List.mem_cons_self ..)
    · exact sq_add hb r (sq_tail h) x hx
theorem min_add {f g : Nat → Int} {left : Nat → Bool} {b : Int} (hb : 0 ≤ b) : ∀ {k : Nat}, (∀ j, j < k → left j = true → 0 ≤ f j ∧ g j = f j + b) →
    (∀ j, j < k → left j = false) ∨ (0 ≤ minGo f left k ∧ minGo g left k = minGo f left k + b)
  | 0, _ => .inl fun j q => by omega
  | k + 1, h => by
    cases e : left k with
    | false =>
      rcases min_add hb (k := k) fun j q => h j (by omega) with q | ⟨q1, q2⟩
      · refine .inl fun j hj => ?_
        by_cases i : j = k
        · rw [i]; exact e
        · exact q j (by omega)
      · right
        rw [minGo, minGo, if_neg (by rw [e]; simp), if_neg (by rw [e]; simp)]
        exact ⟨q1, q2⟩
    | true =>
      right
      obtain ⟨p1, p2⟩ := h k (by omega) e
      rcases min_add hb (k := k) fun j q => h j (by omega) with q | ⟨q1, q2⟩
      · rw [minGo, minGo, min_none q, min_none q, if_pos ⟨e, .inl (by decide)⟩, if_pos ⟨e, .inl (by decide)⟩]
        exact ⟨p1, p2⟩
      · rw [minGo, minGo]
        by_cases t : f k < minGo f left k
        · rw [if_pos ⟨e, .inr t⟩, if_pos ⟨e, .inr (by omega)⟩]
          exact ⟨p1, p2⟩
        · rw [if_neg (by rintro ⟨_, u | u⟩ <;> omega), if_neg (by rintro ⟨_, u | u⟩ <;> omega)]
          exact ⟨q1, q2⟩
theorem getD_add {row : List Int} {b : Int} {k : Nat} (h : k < row.length) : (row.map (· + b)).getD k 0 = row.getD k 0 + b := by
  rw [List.getD_eq_getElem?_getD, List.getD_eq_getElem?_getD, List.getElem?_map, List.getElem?_eq_getElem h]; rfl
theorem best_add {n : Nat} {b : Int} (hb : 0 ≤ b) : ∀ {rows : List (List Int)} {r : Nat} {left : Nat → Bool}, SqOk n rows → rows.length ≤ cntL left n → r < rows.length →
    bestS (addRow rows r b) left = bestS rows left + b
  | [], _, _, _, _, h => by simp at h
  | row :: rest, 0, left, hs, hc, _ => by
    have hl : row.length = n := (hs row (List.mem_cons_self ..)).1
    simp only [List.length_cons] at hc
    rw [addRow, bestS, bestS, List.length_map]
    rcases min_add (f := fun k => row.getD k 0 + bestS rest (delC left k)) (g := fun k => (row.map (· + b)).getD k 0 + bestS rest (delC left k)) (left := left) hb (k := row.length) (fun j q l => by
        have := sq_at hs j
        have := best_pos (rows := rest) (left := delC left j) (sq_tail hs) (by have := cnt_del left l n (by omega); omega)
        refine ⟨by omega, ?_⟩
        show (row.map (· + b)).getD j 0 + _ = _
        rw [getD_add q]; omega) with q | ⟨_, q⟩
    · obtain ⟨j, q1, q2⟩ := cnt_some (left := left) (n := n) (by omega)
      rw [q j (by omega)] at q2; cases q2
    · exact q
  | row :: rest, r + 1, left, hs, hc, hr => by
    have hl : row.length = n := (hs row (List.mem_cons_self ..)).1
    simp only [List.length_cons] at hc hr
    rw [addRow, bestS, bestS]
    rcases min_add (f := fun k => row.getD k 0 + bestS rest (delC left k)) (g := fun k => row.getD k 0 + bestS (addRow rest r b) (delC left k)) (left := left) hb (k := row.length) (fun j q l => by
        have hd := cnt_del left l n (by omega)
        have := sq_at hs j
        have := best_pos (rows := rest) (left := delC left j) (sq_tail hs) (by omega)
        refine ⟨by omega, ?_⟩
        show row.getD j 0 + bestS (addRow rest r b) (delC left j) = _
        rw [best_add hb (sq_tail hs) (by omega) (by omega)]; omega) with q | ⟨_, q⟩
    · obtain ⟨j, q1, q2⟩ := cnt_some (left := left) (n := n) (by omega)
      rw [q j (by omega)] at q2; cases q2
    · exact q
theorem find_same {p q : Nat → Bool} : ∀ {l : List Nat}, (∀ k ∈ l, p k = q k) → l.find? p = l.find? q
  | [], _ => rfl
  | a :: r, h => by
    rw [List.find?_cons, List.find?_cons, h a (List.mem_cons_self ..), find_same fun k hk => h k (List.mem_cons_of_mem _ hk)]
/-- the same is chosen -/
theorem choose_add {n : Nat} {b : Int} (hb : 0 ≤ b) : ∀ {rows : List (List Int)} {r : Nat} {left : Nat → Bool}, SqOk n rows → rows.length ≤ cntL left n → r < rows.length →
    chooseS (addRow rows r b) left = chooseS rows left
  | [], _, _, _, _, h => by simp at h
  | row :: rest, 0, left, hs, hc, hr => by
    have hl : row.length = n := (hs row (List.mem_cons_self ..)).1
    have e := best_add hb hs hc hr
    rw [addRow] at e ⊢
    rw [chooseS, chooseS, e, List.length_map]
    rw [find_same (q := fun k => left k && row.getD k 0 + bestS rest (delC left k) == bestS (row :: rest) left) fun k hk => by
      rw [getD_add (List.mem_range.1 hk)]
      congr 1
      rw [Bool.eq_iff_iff, beq_iff_eq, beq_iff_eq]; omega]
  | row :: rest, r + 1, left, hs, hc, hr => by
    have hl : row.length = n := (hs row (List.mem_cons_self ..)).1
    have e := best_add hb hs hc hr
    rw [addRow] at e ⊢
    simp only [List.length_cons] at hc hr
    obtain ⟨j, q1, q2, q3, q4, _, q6, _⟩ := best_step hs hc
    rw [chooseS, e, find_same (q := fun k => left k && row.getD k 0 + bestS rest (delC left k) == bestS (row :: rest) left) fun k hk => by
      cases l : left k with
      | false => rfl
      | true =>
        have hd := cnt_del left l n (by rw [← hl]; exact List.mem_range.1 hk)
        rw [best_add hb (sq_tail hs) (by omega) (by omega)]
        simp only [Bool.true_and]
        rw [Bool.eq_iff_iff, beq_iff_eq, beq_iff_eq]; omega]
    rw [chooseS] at q6 ⊢
    cases hf : (List.range row.length).find? (fun k => left k && row.getD k 0 + bestS rest (delC left k) == bestS (row :: rest) left) with
    | none =>
      exfalso
      rw [List.find?_eq_none] at hf
      exact hf j (List.mem_range.2 (by omega)) (by rw [q2, q3]; simp)
    | some k =>
      have hk := List.find?_some hf
      have hkm := List.mem_range.1 (List.mem_of_find?_eq_some hf)
      simp only [Bool.and_eq_true] at hk
      have hd := cnt_del left hk.1 n (by omega)
      simp only
      rw [choose_add hb (sq_tail hs) (by omega) (by omega)]
end Go.Proofs.YtcgjegjnodopoaaDoor
