/-
  For LightOwn: few edges; the reference's basis by the program's rows; a list that is overwritten. (Plain.)
-/
import Derived.Test.YtimknijehaamlaaDoorSwE1
set_option linter.unusedSimpArgs false
set_option linter.unusedVariables false
namespace Go.Proofs.YtimknijehaamlaaDoor
open Go Go.AH Go.Lin

theorem gr_code {n : Nat} {ws : List (Nat × Nat)} (h : Gr n ws) (hn : n ≤ 10) : ∀ i, i < ws.length → i ≤ 10 * (ws.getD i (0, 0)).1 + (ws.getD i (0, 0)).2
  | 0, _ => Nat.zero_le _
  | i + 1, hi => by
    have ih := gr_code h hn i (by omega)
    have h1 := h.ok i (by omega)
    have h2 := h.ok (i + 1) hi
    have h3 := h.inc i hi
    omega
theorem gr_len10 {n : Nat} {ws : List (Nat × Nat)} (h : Gr n ws) (hn : n ≤ 10) : ws.length ≤ 100 := by
  by_cases h0 : ws.length = 0
  · omega
  · have h1 := gr_code h hn (ws.length - 1) (by omega)
    have h2 := h.ok (ws.length - 1) (by omega)
    omega
theorem rq_congr {A B : List Nat} {n : Nat} (h : ∀ x, x < 2 ^ n → eff A x = eff B x) : ∀ k, k ≤ 2 ^ n → rq A k = rq B k
  | 0, _ => rfl
  | k + 1, hk => by
    rw [rq, rq, rq_congr h k (by omega), rqS, rqS, h k (by omega)]
theorem basis_near {n : Nat} {ws : List (Nat × Nat)} (h : Gr n ws) (own : Bool) : (tidyD (qsR n (openR n ws own))).reverse = (rq (nearL n ws own) (2 ^ n)).1 := by
  rw [rq_congr (fun x hx => eff_near h own hx) _ (Nat.le_refl _)]
  exact tidy_rq (inv_all (openR n ws own) n (openR_Sym h own).len)
/-- The first k numbers are overwritten. -/
def mutL (T : List Int) (k : Nat) : List Int := (List.range T.length).map fun i => if i < k then -1 else T.getD i 0
theorem mutL_len (T : List Int) (k : Nat) : (mutL T k).length = T.length := by simp [mutL]
theorem mutL_zero (T : List Int) : mutL T 0 = T := by
  apply List.ext_getElem
  · simp [mutL]
  · intro i h1 h2
    simp [mutL, List.getD_eq_getElem?_getD, h2]
theorem mutL_succ (T : List Int) (k : Nat) : (mutL T k).set k (-1) = mutL T (k + 1) := by
  apply List.ext_getElem
  · simp [mutL]
  · intro j h1 h2
    simp only [mutL, List.getElem_map, List.getElem_range, List.getElem_set]
    by_cases e : k = j
    · subst e; simp
    · rw [if_neg e]
      have : (j < k + 1) = (j < k) := by apply propext; omega
      simp only [this]
end Go.Proofs.YtimknijehaamlaaDoor
