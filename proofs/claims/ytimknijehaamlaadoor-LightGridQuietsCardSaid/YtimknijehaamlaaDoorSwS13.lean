/-
  What each place of the first row asks, all of them on one number. (Plain.)
-/
import Derived.Test.YtimknijehaamlaaDoorSwS12
set_option linter.unusedSimpArgs false
set_option linter.unusedVariables false
namespace Go.Proofs.YtimknijehaamlaaDoor
open Go Go.AH Go.Lin

def wS (own : Bool) (c : Nat) (p : Nat × Nat) : Nat × Nat := (p.2, (p.1 ^^^ (p.2 <<< 1) ^^^ (p.2 >>> 1) ^^^ (if own then p.2 else 0)) &&& (2 ^ c - 1))
def wR (own : Bool) (c : Nat) : Nat → Nat → Nat × Nat
  | 0, k => (0, 2 ^ k)
  | r + 1, k => wS own c (wR own c r k)
def waysR (own : Bool) (c r : Nat) : List Nat := (List.range c).map fun k => (wR own c r k).2
theorem wS_lt {own : Bool} {c : Nat} {p : Nat × Nat} (h : p.2 < 2 ^ c) : (wS own c p).1 < 2 ^ c ∧ (wS own c p).2 < 2 ^ c := by
  have h0 := Nat.two_pow_pos c
  exact ⟨h, Nat.lt_of_le_of_lt Nat.and_le_right (show 2 ^ c - 1 < 2 ^ c by omega)⟩
theorem wR_lt (own : Bool) {c k : Nat} (hk : k < c) : ∀ r, (wR own c r k).1 < 2 ^ c ∧ (wR own c r k).2 < 2 ^ c
  | 0 => ⟨Nat.two_pow_pos c, Nat.pow_lt_pow_right (by omega) hk⟩
  | r + 1 => wS_lt (wR_lt own hk r).2
theorem waysR_len (own : Bool) (c r : Nat) : (waysR own c r).length = c := by simp [waysR]
theorem waysR_get (own : Bool) {c r j : Nat} (hj : j < c) : (waysR own c r).getD j 0 = (wR own c r j).2 := by
  rw [waysR, List.getD_eq_getElem?_getD, List.getElem?_map, List.getElem?_range hj]; rfl
theorem waysR_lt (own : Bool) {c r : Nat} (hc : c ≤ 60) (j : Nat) : (waysR own c r).getD j 0 < 2 ^ 60 := by
  by_cases hj : j < c
  · rw [waysR_get own hj]
    exact Nat.lt_of_lt_of_le (wR_lt own hj r).2 (Nat.pow_le_pow_right (by omega) hc)
  · rw [List.getD_eq_getElem?_getD, List.getElem?_eq_none (by rw [waysR_len]; omega)]; exact Nat.two_pow_pos 60
def fullL (c : Nat) : Nat := packL (fun _ => 2 ^ c - 1) c
def pS (own : Bool) (c : Nat) (p : Nat × Nat) : Nat × Nat := (p.2, Nat.land (Nat.xor (Nat.xor (Nat.xor p.1 (Nat.shiftLeft p.2 1)) (Nat.shiftRight p.2 1)) (cond own p.2 0)) (fullL c))
def pW (own : Bool) (c : Nat) : Nat → Nat × Nat
  | 0 => (0, packL (fun k => 2 ^ k) c)
  | r + 1 => pS own c (pW own c r)
/-- A row's number, within the rows. -/
def cut (c : Nat) (f : Nat → Nat) (j : Nat) : Nat := if j < c then f j else 0
theorem cut_lt {c : Nat} {f : Nat → Nat} (h : ∀ j, j < c → f j < 2 ^ c) (hc : c ≤ 60) (j : Nat) : cut c f j < 2 ^ 60 := by
  unfold cut
  split
  · rename_i hj; exact Nat.lt_of_lt_of_le (h j hj) (Nat.pow_le_pow_right (by omega) hc)
  · exact Nat.two_pow_pos 60
theorem lt64 {x : Nat} (h : x < 2 ^ 60) : x < 2 ^ 64 := Nat.lt_trans h (by decide)
theorem full_test {c : Nat} (hc : c ≤ 60) (i : Nat) : (fullL c).testBit i = (decide (i / 64 < c) && decide (i % 64 < c)) := by
  have h : (2 : Nat) ^ c - 1 < 2 ^ 64 := by
    have := Nat.pow_le_pow_right (show 0 < 2 by omega) (show c ≤ 64 by omega)
    have := Nat.two_pow_pos c
    omega
  rw [fullL, packL_test c _ i (fun _ => h), Nat.testBit_two_pow_sub_one]
theorem pS_step {own : Bool} {c : Nat} (hc : c ≤ 60) {B N : Nat → Nat} (hB : ∀ j, B j < 2 ^ 60) (hN : ∀ j, N j < 2 ^ 60) : (pS own c (packL B c, packL N c)).2 = packL (fun j => (wS own c (B j, N j)).2) c := by
  have h2 : ∀ j, (wS own c (B j, N j)).2 < 2 ^ 64 := fun j => by
    have h0 := Nat.two_pow_pos c
    have := Nat.pow_le_pow_right (show 0 < 2 by omega) (show c ≤ 64 by omega)
    have : (wS own c (B j, N j)).2 ≤ 2 ^ c - 1 := Nat.and_le_right
    omega
  refine Nat.eq_of_testBit_eq fun i => ?_
  show ((((packL B c ^^^ (packL N c <<< 1)) ^^^ (packL N c >>> 1)) ^^^ (cond own (packL N c) 0)) &&& fullL c).testBit i = _
  have t1 : (cond own (packL N c) 0).testBit i = (own && (packL N c).testBit i) := by cases own <;> simp
  rw [packL_test c _ i h2, Nat.testBit_and, full_test hc, Nat.testBit_xor, Nat.testBit_xor, Nat.testBit_xor, Nat.testBit_shiftLeft, Nat.testBit_shiftRight, t1, packL_test c B i (fun j => lt64 (hB j)), packL_test c N i (fun j => lt64 (hN j)), packL_test c N (i - 1) (fun j => lt64 (hN j)), packL_test c N (1 + i) (fun j => lt64 (hN j))]
  by_cases h1 : i / 64 < c
  · by_cases h3 : i % 64 < c
    · have e1 : (1 + i) / 64 = i / 64 := by omega
      have e2 : (1 + i) % 64 = 1 + i % 64 := by omega
      have e3 : (decide (i ≥ 1) && (decide ((i - 1) / 64 < c) && (N ((i - 1) / 64)).testBit ((i - 1) % 64))) = (decide (i % 64 ≥ 1) && (N (i / 64)).testBit (i % 64 - 1)) := by
        by_cases h4 : i % 64 ≥ 1
        · have e4 : (i - 1) / 64 = i / 64 := by omega
          have e5 : (i - 1) % 64 = i % 64 - 1 := by omega
          rw [e4, e5, decide_eq_true h4, decide_eq_true h1, decide_eq_true (show i ≥ 1 by omega)]; simp
        · rw [decide_eq_false h4, Bool.false_and]
          by_cases h5 : i ≥ 1
          · have e5 : (i - 1) % 64 = 63 := by omega
            rw [e5, Nat.testBit_lt_two_pow (Nat.lt_of_lt_of_le (hN _) (Nat.pow_le_pow_right (by omega) (by omega))), Bool.and_false, Bool.and_false]
          · rw [decide_eq_false h5, Bool.false_and]
      rw [e3, e1, e2, decide_eq_true h1, decide_eq_true h3]
      show _ = (true && (((B (i / 64) ^^^ (N (i / 64) <<< 1) ^^^ (N (i / 64) >>> 1) ^^^ (if own then N (i / 64) else 0)) &&& (2 ^ c - 1)).testBit (i % 64)))
      rw [Nat.testBit_and, Nat.testBit_two_pow_sub_one, decide_eq_true h3, Nat.testBit_xor, Nat.testBit_xor, Nat.testBit_xor, Nat.testBit_shiftLeft, Nat.testBit_shiftRight]
      cases own <;> simp
    · rw [decide_eq_false h3, Bool.and_false, Bool.and_false]
      show _ = (decide (i / 64 < c) && ((_ &&& (2 ^ c - 1)).testBit (i % 64)))
      rw [Nat.testBit_and, Nat.testBit_two_pow_sub_one, decide_eq_false h3, Bool.and_false, Bool.and_false]
  · rw [decide_eq_false h1]; simp
theorem pW_eq (own : Bool) {c : Nat} (hc : c ≤ 60) : ∀ r, pW own c r = (packL (cut c fun j => (wR own c r j).1) c, packL (cut c fun j => (wR own c r j).2) c)
  | 0 => by
    have e0 : ∀ c, packL (fun _ => 0) c = 0 := fun c => by
      induction c with
      | zero => rfl
      | succ c ih => rw [packL, ih]
    have e1 : packL (cut c fun j => (wR own c 0 j).1) c = 0 := by
      rw [packL_congr c (g := fun _ => 0) fun j hj => by unfold cut; rw [if_pos hj]; rfl]
      exact e0 c
    have e2 : packL (cut c fun j => (wR own c 0 j).2) c = packL (fun k => 2 ^ k) c := packL_congr c fun j hj => by unfold cut; rw [if_pos hj]; rfl
    rw [e1, e2]; rfl
  | r + 1 => by
    have hB := cut_lt (f := fun j => (wR own c r j).1) (fun j hj => (wR_lt own hj r).1) hc
    have hN := cut_lt (f := fun j => (wR own c r j).2) (fun j hj => (wR_lt own hj r).2) hc
    have h := pS_step (own := own) hc hB hN
    rw [pW, pW_eq own hc r]
    refine Prod.ext ?_ ?_
    · exact packL_congr c fun j hj => rfl
    · rw [h]
      refine packL_congr c fun j hj => ?_
      unfold cut
      rw [if_pos hj, if_pos hj, if_pos hj]; rfl
theorem ways_pack (own : Bool) {c r : Nat} (hc : c ≤ 60) : packL (fun j => (waysR own c r).getD j 0) c = (pW own c r).2 := by
  rw [pW_eq own hc]
  refine packL_congr c fun j hj => ?_
  unfold cut
  rw [if_pos hj, waysR_get own hj]
/-- The rank of the reference. -/
theorem ways_rank (own : Bool) {c r : Nat} (hc : c ≤ 60) : (elR c (waysR own c r) c).2 = prk c c 0 (pW own c r).2 0 := by
  rw [el_rank hc (waysR_len own c r) (fun j => lt64 (waysR_lt own hc j)), ways_pack own hc]
end Go.Proofs.YtimknijehaamlaaDoor
