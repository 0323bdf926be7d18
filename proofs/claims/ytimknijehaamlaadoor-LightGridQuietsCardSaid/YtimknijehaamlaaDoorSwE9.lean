/-
  Polynomials, coefficient by coefficient. (Plain.)
-/
import Derived.Test.YtimknijehaamlaaDoorSwE5
set_option linter.unusedSimpArgs false
set_option linter.unusedVariables false
namespace Go.Proofs.YtimknijehaamlaaDoor
open Go Go.AH Go.Lin

/-- Nothing stands beyond a polynomial's length. -/
def Trim (p : PC) : Prop := ∀ j, p.2 ≤ j → p.1.getD j false = false
theorem trimN_beyond (c : List Bool) : ∀ n j, trimN c n ≤ j → j < n → c.getD j false = false
  | 0, j, _, h => absurd h (Nat.not_lt_zero j)
  | n + 1, j, h, hj => by
    rw [trimN] at h
    split at h
    · omega
    · rename_i e
      by_cases hjn : j = n
      · subst hjn; simpa using e
      · exact trimN_beyond c n j h (by omega)
theorem getD_beyond {L : List Bool} {j : Nat} (h : L.length ≤ j) : L.getD j false = false := by
  rw [List.getD_eq_getElem?_getD, List.getElem?_eq_none h]; rfl
theorem sumQ_trim {a b : PC} {s : Nat} (ha : a.2 ≤ a.1.length) (hb : b.2 ≤ b.1.length) : Trim (sumQ a b s) := fun j hj => by
  have hal : (a.1.take a.2).length = a.2 := by simp; omega
  have hbl : (b.1.take b.2).length = b.2 := by simp; omega
  by_cases h : j < max a.2 (b.2 + s)
  · exact trimN_beyond _ _ j hj h
  · refine getD_beyond ?_
    show (addTo _ _ _ _).length ≤ j
    rw [addTo_len, hal, hbl]; omega
theorem take_trim {p : PC} (t : Trim p) (j : Nat) : (p.1.take p.2).getD j false = p.1.getD j false := by
  by_cases h : j < p.2
  · exact take_getD h
  · rw [List.getD_eq_getElem?_getD, List.getElem?_take, if_neg h]
    exact (t j (by omega)).symm
theorem sumQ_get {a b : PC} {s : Nat} (hb : b.2 ≤ b.1.length) (ta : Trim a) (tb : Trim b) (j : Nat) : (sumQ a b s).1.getD j false = (a.1.getD j false != (decide (s ≤ j) && b.1.getD (j - s) false)) := by
  have hbl : (b.1.take b.2).length = b.2 := by simp; omega
  show (addTo _ _ _ _).getD j false = _
  rw [addTo_get _ _ _ _ (Nat.le_refl _), take_trim ta, take_trim tb, hbl]
  congr 1
  by_cases h1 : s ≤ j
  · by_cases h2 : j < s + b.2
    · rw [decide_eq_true (show s ≤ j ∧ j < s + b.2 from ⟨h1, h2⟩), decide_eq_true h1]
    · rw [decide_eq_false (show ¬ (s ≤ j ∧ j < s + b.2) from fun h => h2 h.2), tb (j - s) (by omega), Bool.and_false, Bool.and_false]
  · rw [decide_eq_false (show ¬ (s ≤ j ∧ j < s + b.2) from fun h => h1 h.1), decide_eq_false h1]
theorem pathQ_trim (own : Bool) (i : Nat) : Trim (pathQ own i).1 ∧ Trim (pathQ own i).2 := by
  induction i with
  | zero =>
    refine ⟨fun j _ => rfl, fun j hj => ?_⟩
    exact getD_beyond hj
  | succ i ih =>
    have h1 := (pathQ_ok own i).1.le
    have h2 := (pathQ_ok own i).2.le
    refine ⟨ih.2, ?_⟩
    cases own
    · exact sumQ_trim h1 h2
    · have h3 := (sumQ_ok (pathQ_ok true i).1 (pathQ_ok true i).2 (s := 1)).le
      exact sumQ_trim h3 h2
/-- The coefficients of a path's polynomial, and of the one before it. -/
def pc (i j : Nat) : Bool := (pathQ false i).2.1.getD j false
def pl (i j : Nat) : Bool := (pathQ false i).1.1.getD j false
theorem pl_succ (i j : Nat) : pl (i + 1) j = pc i j := rfl
theorem pl_zero (j : Nat) : pl 0 j = false := rfl
theorem pc_zero (j : Nat) : pc 0 j = decide (j = 0) := by
  cases j with
  | zero => rfl
  | succ j => exact getD_beyond (show [true].length ≤ j + 1 by simp)
theorem pc_succ (i j : Nat) : pc (i + 1) j = (pl i j != (decide (1 ≤ j) && pc i (j - 1))) :=
  sumQ_get (pathQ_ok false i).2.le (pathQ_trim false i).1 (pathQ_trim false i).2 j
def bI (f : Nat → Bool) (j : Nat) : Int := if f j then 1 else 0
theorem bI_01 (f : Nat → Bool) (j : Nat) : bI f j = 0 ∨ bI f j = 1 := by unfold bI; split <;> simp
theorem bI_sum (i j : Nat) : (bI (pl i) (j + 1) + bI (pc i) j) % 2 = bI (pc (i + 1)) (j + 1) := by
  unfold bI
  rw [pc_succ, decide_eq_true (show 1 ≤ j + 1 by omega), Nat.add_sub_cancel]
  cases pl i (j + 1) <;> cases pc i j <;> rfl
theorem bI_sum0 (i : Nat) : bI (pl i) 0 = bI (pc (i + 1)) 0 := by
  unfold bI
  rw [pc_succ, decide_eq_false (show ¬ 1 ≤ 0 by omega), Bool.false_and]
  cases pl i 0 <;> rfl
/-- A polynomial's coefficients, as the reference lists them. -/
def coL (f : Nat → Bool) (m : Nat) : List Int := tabL (bI f) m m
theorem coL_get {f : Nat → Bool} {m j : Nat} (h : j < m) : (coL f m).getD j 0 = bI f j := by
  rw [coL, tabL, List.getD_eq_getElem?_getD, List.getElem?_map, List.getElem?_range h]
  show (if j < m then bI f j else 0) = _
  rw [if_pos h]
theorem coL_len (f : Nat → Bool) (m : Nat) : (coL f m).length = m := tabL_len _ _ _
theorem coL_zero (m : Nat) : List.replicate m 0 = coL (pl 0) m := by
  rw [coL]
  have : bI (pl 0) = fun _ => 0 := by funext j; rw [bI, pl_zero]; rfl
  rw [this, tabL_all]
theorem coL_one (m : Nat) : (List.replicate m 0).set 0 (1 : Int) = coL (pc 0) m := by
  apply List.ext_getElem
  · simp [coL_len]
  · intro j h1 h2
    have hm : j < m := by simpa using h1
    have := coL_get (f := pc 0) hm
    rw [List.getD_eq_getElem?_getD, List.getElem?_eq_getElem h2] at this
    have h3 : (coL (pc 0) m)[j] = bI (pc 0) j := this
    rw [h3, bI, pc_zero, List.getElem_set, List.getElem_replicate]
    by_cases e : j = 0
    · subst e; simp
    · rw [if_neg (by omega)]; simp [e]
/-- The exponents. -/
def exN (f : Nat → Bool) (k : Nat) : List Nat := (List.range k).filter f
theorem exN_succ (f : Nat → Bool) (k : Nat) : exN f (k + 1) = exN f k ++ if f k then [k] else [] := by
  rw [exN, List.range_succ, List.filter_append, List.filter_cons, List.filter_nil]; rfl
theorem exN_len (f : Nat → Bool) (k : Nat) : (exN f k).length ≤ k := by
  have := List.length_filter_le f (List.range k)
  rw [List.length_range] at this; exact this
theorem exN_more {f : Nat → Bool} {n : Nat} (h : ∀ j, n ≤ j → f j = false) (d : Nat) : exN f (n + d) = exN f n := by
  induction d with
  | zero => rfl
  | succ d ih => rw [← Nat.add_assoc, exN_succ, ih, h _ (by omega)]; simp
theorem exQ_exN {k m : Nat} (hk : 1 ≤ k) (hm : k ≤ m) : exQ (pathC k false) (pathC k false).2 = exN (pc (k - 1)) m := by
  have hl := pathC_len hk false
  have ht := (pathQ_trim false (k - 1)).2
  obtain ⟨d, rfl⟩ : ∃ d, m = (pathC k false).2 + d := ⟨m - (pathC k false).2, by omega⟩
  exact (exN_more (f := pc (k - 1)) (fun j hj => ht j hj) d).symm
end Go.Proofs.YtimknijehaamlaaDoor
