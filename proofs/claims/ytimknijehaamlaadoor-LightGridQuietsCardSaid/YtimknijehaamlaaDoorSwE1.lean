/-
  The reference's rows are the program's. (Plain.)
-/
import Derived.Test.YtimknijehaamlaaDoorSw5
set_option linter.unusedSimpArgs false
set_option linter.unusedVariables false
namespace Go.Proofs.YtimknijehaamlaaDoor
open Go Go.AH Go.Lin

theorem orAt_len (rows : List Nat) (i v : Nat) : (orAt rows i v).length = rows.length := by rw [orAt, List.length_set]
theorem nearF_len (rows : List Nat) (p : Nat × Nat) : (nearF rows p).length = rows.length := by rw [nearF, orAt_len, orAt_len]
theorem ownF_len (rows : List Nat) (i : Nat) : (ownF rows i).length = rows.length := orAt_len _ _ _
theorem nearF_bit {rows : List Nat} {p : Nat × Nat} (h1 : p.1 < rows.length) (h2 : p.2 < rows.length) (k m : Nat) : ((nearF rows p).getD k 0).testBit m = ((rows.getD k 0).testBit m || ((decide (p.1 = k) && decide (p.2 = m)) || (decide (p.2 = k) && decide (p.1 = m)))) := by
  rw [nearF, orAt_get (by rw [orAt_len]; omega), orAt_get (by omega)]
  by_cases e1 : p.1 = k <;> by_cases e2 : p.2 = k <;> simp [e1, e2, Nat.testBit_or, Nat.testBit_two_pow, Bool.or_assoc]
theorem ownF_bit {rows : List Nat} {i : Nat} (hi : i < rows.length) (k m : Nat) : ((ownF rows i).getD k 0).testBit m = ((rows.getD k 0).testBit m || (decide (i = k) && decide (i = m))) := by
  rw [ownF, orAt_get hi]
  by_cases e : i = k <;> simp [e, Nat.testBit_or, Nat.testBit_two_pow]
def adjB (ws : List (Nat × Nat)) (k m : Nat) : Bool := ws.any fun p => (decide (p.1 = k) && decide (p.2 = m)) || (decide (p.2 = k) && decide (p.1 = m))
theorem near_bit : ∀ {ws : List (Nat × Nat)} {rows : List Nat}, (∀ p ∈ ws, p.1 < rows.length ∧ p.2 < rows.length) → ∀ k m, ((ws.foldl nearF rows).getD k 0).testBit m = ((rows.getD k 0).testBit m || adjB ws k m)
  | [], rows, _, k, m => by simp [adjB]
  | p :: ws, rows, h, k, m => by
    have hp := h p (List.mem_cons_self ..)
    rw [List.foldl_cons, near_bit (fun q hq => by rw [nearF_len]; exact h q (List.mem_cons_of_mem _ hq)), nearF_bit hp.1 hp.2, adjB, adjB, List.any_cons, Bool.or_assoc]
theorem near_len (ws : List (Nat × Nat)) : ∀ rows : List Nat, (ws.foldl nearF rows).length = rows.length := by
  induction ws with
  | nil => intro rows; rfl
  | cons p ws ih => intro rows; rw [List.foldl_cons, ih, nearF_len]
theorem own_len (n : Nat) (rows : List Nat) : (ownR n rows).length = rows.length := by
  induction n with
  | zero => rfl
  | succ n ih => rw [ownR, List.range_succ, List.foldl_append]; exact (ownF_len _ _).trans ih
theorem own_bit {rows : List Nat} (n : Nat) (hn : n ≤ rows.length) (k m : Nat) : ((ownR n rows).getD k 0).testBit m = ((rows.getD k 0).testBit m || (decide (k < n) && decide (k = m))) := by
  induction n with
  | zero => simp [ownR]
  | succ n ih =>
    have := own_len n rows
    rw [ownR, List.range_succ, List.foldl_append]
    show ((ownF (ownR n rows) n).getD k 0).testBit m = _
    rw [ownF_bit (by omega), ih (by omega), Bool.or_assoc]
    congr 1
    by_cases e : n = k
    · subst e; simp
    · have : (k < n + 1) = (k < n) := by apply propext; omega
      simp [e, this]
theorem zero_bit (a k m : Nat) : ((List.replicate a 0).getD k 0).testBit m = false := by
  rw [List.getD_eq_getElem?_getD, List.getElem?_replicate]; split <;> exact Nat.zero_testBit _
theorem Gr.mem {n : Nat} {ws : List (Nat × Nat)} (h : Gr n ws) {p : Nat × Nat} (hp : p ∈ ws) : p.1 < p.2 ∧ p.2 < n := by
  obtain ⟨i, hi, rfl⟩ := List.getElem_of_mem hp
  have := h.ok i hi
  rw [List.getD_eq_getElem?_getD, List.getElem?_eq_getElem hi] at this
  exact this
theorem openR_bit {n : Nat} {ws : List (Nat × Nat)} (h : Gr n ws) (own : Bool) (k m : Nat) : ((openR n ws own).getD k 0).testBit m = (adjB ws k m || (own && (decide (k < n) && decide (k = m)))) := by
  have hn := h.n16
  have hz : zero16.length = 16 := rfl
  have hr : ∀ p ∈ ws, p.1 < zero16.length ∧ p.2 < zero16.length := fun p hp => by have := h.mem hp; omega
  have z := zero_bit 16 k m
  change (zero16.getD k 0).testBit m = false at z
  unfold openR
  cases own
  · show ((nearR ws).getD k 0).testBit m = _
    rw [nearR, near_bit hr, z, Bool.false_or, Bool.false_and, Bool.or_false]
  · show ((ownR n (nearR ws)).getD k 0).testBit m = _
    rw [own_bit n (by rw [nearR, near_len]; omega), nearR, near_bit hr, z, Bool.false_or, Bool.true_and]
/-- The reference's rows. -/
def ownL (n i : Nat) : List Nat := (List.range n).map fun j => if j < i then 2 ^ j else 0
def nearL (n : Nat) (ws : List (Nat × Nat)) (own : Bool) : List Nat := ws.foldl nearF (ownL n (if own then n else 0))
theorem ownL_len (n i : Nat) : (ownL n i).length = n := by simp [ownL]
theorem ownL_zero (n : Nat) : ownL n 0 = List.replicate n 0 := by
  apply List.ext_getElem <;> simp [ownL]
theorem ownL_succ (n i : Nat) (hi : i < n) : ownL n (i + 1) = (ownL n i).set i (2 ^ i) := by
  apply List.ext_getElem
  · simp [ownL]
  · intro j h1 h2
    simp only [ownL, List.getElem_map, List.getElem_range, List.getElem_set]
    by_cases e : i = j
    · subst e; simp
    · rw [if_neg e]
      have : (j < i + 1) = (j < i) := by apply propext; omega
      simp only [this]
theorem ownL_bit (n i k m : Nat) (hi : i ≤ n) : ((ownL n i).getD k 0).testBit m = (decide (k < i) && decide (k = m)) := by
  rw [List.getD_eq_getElem?_getD, ownL, List.getElem?_map]
  by_cases hk : k < n
  · rw [List.getElem?_eq_getElem (by simpa using hk)]
    by_cases e : k < i <;> simp [e, Nat.testBit_two_pow]
  · rw [List.getElem?_eq_none (by simpa using hk)]
    have : ¬ k < i := by omega
    simp [this]
theorem nearL_len (n : Nat) (ws : List (Nat × Nat)) (own : Bool) : (nearL n ws own).length = n := by rw [nearL, near_len, ownL_len]
theorem nearL_get {n : Nat} {ws : List (Nat × Nat)} (h : Gr n ws) (own : Bool) (k : Nat) : (nearL n ws own).getD k 0 = (openR n ws own).getD k 0 := by
  apply Nat.eq_of_testBit_eq
  intro m
  rw [openR_bit h, nearL, near_bit (fun p hp => by have := h.mem hp; rw [ownL_len]; omega), ownL_bit _ _ _ _ (by split <;> omega), Bool.or_comm]
  cases own <;> simp
theorem effX_more (rows : List Nat) {x n : Nat} (hx : x < 2 ^ n) (a d : Nat) : effX rows x (List.range (n + d)) a = effX rows x (List.range n) a := by
  induction d with
  | zero => rfl
  | succ d ih =>
    rw [← Nat.add_assoc, List.range_succ, effX, List.foldl_append]
    show (if x.testBit (n + d) then _ else _) = _
    rw [Nat.testBit_lt_two_pow (Nat.lt_of_lt_of_le hx (Nat.pow_le_pow_right (by omega) (by omega)))]
    exact ih
theorem effX_congr {rows rows' : List Nat} (h : ∀ k, rows.getD k 0 = rows'.getD k 0) (x : Nat) (is : List Nat) (a : Nat) : effX rows x is a = effX rows' x is a := by
  unfold effX
  congr 1
  funext a i
  rw [h i]
/-- A set's effect is the same by the program's rows and by the reference's. -/
theorem eff_near {n : Nat} {ws : List (Nat × Nat)} (h : Gr n ws) (own : Bool) {x : Nat} (hx : x < 2 ^ n) : eff (nearL n ws own) x = eff (openR n ws own) x := by
  have hl : (openR n ws own).length = n + (16 - n) := by have := (openR_lm h own).len; have := h.n16; omega
  unfold eff
  rw [hl, nearL_len, effX_more _ hx]
  exact effX_congr (nearL_get h own) x _ 0
theorem orAt_lt {n : Nat} {rows : List Nat} (hr : ∀ j, rows.getD j 0 < 2 ^ n) {i v : Nat} (hv : v < 2 ^ n) (j : Nat) : (orAt rows i v).getD j 0 < 2 ^ n := by
  by_cases hi : i < rows.length
  · rw [orAt_get hi]
    split
    · exact Nat.or_lt_two_pow (hr j) hv
    · exact hr j
  · rw [orAt, List.set_eq_of_length_le (by omega)]
    exact hr j
theorem nearF_lt {n : Nat} {rows : List Nat} (hr : ∀ j, rows.getD j 0 < 2 ^ n) {p : Nat × Nat} (h1 : p.1 < n) (h2 : p.2 < n) (j : Nat) : (nearF rows p).getD j 0 < 2 ^ n :=
  orAt_lt (orAt_lt hr (Nat.pow_lt_pow_right (by omega) h2)) (Nat.pow_lt_pow_right (by omega) h1) j
theorem near_lt {n : Nat} : ∀ {ws : List (Nat × Nat)}, (∀ p ∈ ws, p.1 < n ∧ p.2 < n) → ∀ {rows : List Nat}, (∀ j, rows.getD j 0 < 2 ^ n) → ∀ j, (ws.foldl nearF rows).getD j 0 < 2 ^ n
  | [], _, _, hr, j => hr j
  | p :: ws, h, _, hr, j => near_lt (fun q hq => h q (List.mem_cons_of_mem _ hq)) (nearF_lt hr (h p (List.mem_cons_self ..)).1 (h p (List.mem_cons_self ..)).2) j
theorem ownL_lt {n i : Nat} (hi : i ≤ n) (j : Nat) : (ownL n i).getD j 0 < 2 ^ n := by
  rw [List.getD_eq_getElem?_getD, ownL, List.getElem?_map]
  by_cases hk : j < n
  · rw [List.getElem?_eq_getElem (by simpa using hk)]
    rw [List.getElem_range]
    show (if j < i then 2 ^ j else 0) < 2 ^ n
    split
    · exact Nat.pow_lt_pow_right (by omega) hk
    · exact Nat.two_pow_pos n
  · rw [List.getElem?_eq_none (by simpa using hk)]
    exact Nat.two_pow_pos n
theorem near_take_lt {n : Nat} {ws : List (Nat × Nat)} (h : Gr n ws) {rows : List Nat} (hr : ∀ j, rows.getD j 0 < 2 ^ n) (k j : Nat) : ((ws.take k).foldl nearF rows).getD j 0 < 2 ^ n :=
  near_lt (fun p hp => by have := h.mem (List.mem_of_mem_take hp); omega) hr j
theorem nearL_lt {n : Nat} {ws : List (Nat × Nat)} (h : Gr n ws) (own : Bool) (j : Nat) : (nearL n ws own).getD j 0 < 2 ^ n :=
  near_lt (fun p hp => by have := h.mem hp; omega) (ownL_lt (by split <;> omega)) j
end Go.Proofs.YtimknijehaamlaaDoor
