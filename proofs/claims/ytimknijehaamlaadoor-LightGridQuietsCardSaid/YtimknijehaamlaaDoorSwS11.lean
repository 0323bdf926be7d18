/-
  The reference's elimination, and the same one on one great number. (Plain.)
-/
import Derived.Test.YtimknijehaamlaaDoorSwS6
set_option linter.unusedSimpArgs false
set_option linter.unusedVariables false
namespace Go.Proofs.YtimknijehaamlaaDoor
open Go Go.AH Go.Lin

/-! Sums of some numbers. -/
inductive Sp (G : Nat → Prop) : Nat → Prop
  | zero : Sp G 0
  | add {x v : Nat} : G x → Sp G v → Sp G (x ^^^ v)
theorem Sp.of {G : Nat → Prop} {x : Nat} (h : G x) : Sp G x := by
  have := Sp.add h Sp.zero
  rwa [Nat.xor_zero] at this
theorem Sp.sum {G : Nat → Prop} {x y : Nat} (h : Sp G x) (k : Sp G y) : Sp G (x ^^^ y) := by
  induction h with
  | zero => rwa [Nat.zero_xor]
  | add hx _ ih => rw [Nat.xor_assoc]; exact Sp.add hx ih
theorem Sp.sub {G H : Nat → Prop} (h : ∀ x, G x → Sp H x) {v : Nat} (k : Sp G v) : Sp H v := by
  induction k with
  | zero => exact Sp.zero
  | add hx _ ih => exact (h _ hx).sum ih
/-- w is added where the bit stands. -/
def ph (b w x : Nat) : Nat := if x.testBit b then x ^^^ w else x
theorem ph_xor {b w : Nat} (hw : w.testBit b = true) (x y : Nat) : ph b w (x ^^^ y) = ph b w x ^^^ ph b w y := by
  unfold ph
  rw [Nat.testBit_xor]
  cases x.testBit b <;> cases y.testBit b <;> simp only [Bool.false_eq_true, if_false, if_true, Bool.xor_false, Bool.false_xor, Bool.xor_self, Bool.xor_true, Bool.not_false, Bool.not_true] <;> refine Nat.eq_of_testBit_eq fun i => ?_ <;> simp only [Nat.testBit_xor] <;> cases x.testBit i <;> cases y.testBit i <;> cases w.testBit i <;> rfl
theorem ph_bit {b w : Nat} (hw : w.testBit b = true) (x : Nat) : (ph b w x).testBit b = false := by
  unfold ph
  cases h : x.testBit b
  · rw [if_neg (by simp)]; exact h
  · rw [if_pos rfl, Nat.testBit_xor, h, hw]; rfl
theorem ph_zero (b w : Nat) : ph b w 0 = 0 := by unfold ph; simp
/-- What is left when a bit is cleared. -/
theorem Sp_clear {G G' : Nat → Prop} {b w : Nat} (hw : w.testBit b = true) (hG : G w) (h1 : ∀ x, G x → Sp G' (ph b w x)) (h2 : ∀ x, G' x → ∃ y, G y ∧ x = ph b w y) (v : Nat) : Sp G' v ↔ Sp G v ∧ v.testBit b = false := by
  constructor
  · intro h
    induction h with
    | zero => exact ⟨Sp.zero, by simp⟩
    | add hx _ ih =>
      obtain ⟨y, hy, rfl⟩ := h2 _ hx
      refine ⟨Sp.sum ?_ ih.1, ?_⟩
      · unfold ph
        split
        · exact (Sp.of hy).sum (Sp.of hG)
        · exact Sp.of hy
      · rw [Nat.testBit_xor, ph_bit hw, ih.2]; rfl
  · rintro ⟨h, hv⟩
    have key : ∀ u, Sp G u → Sp G' (ph b w u) := fun u hu => by
      induction hu with
      | zero => rw [ph_zero]; exact Sp.zero
      | add hx _ ih => rw [ph_xor hw]; exact (h1 _ hx).sum ih
    have := key v h
    unfold ph at this
    rwa [hv, if_neg (by simp)] at this
theorem Sp_bit {G : Nat → Prop} {b : Nat} (h : ∀ x, G x → x.testBit b = false) {v : Nat} (k : Sp G v) : v.testBit b = false := by
  induction k with
  | zero => simp
  | add hx _ ih => rw [Nat.testBit_xor, h _ hx, ih]; rfl
/-- Rows of two eliminations. -/
def rowsG (ρ : Nat → Nat) (lo c : Nat) (x : Nat) : Prop := ∃ j, lo ≤ j ∧ j < c ∧ x = ρ j

/-! One great number. -/
def packL : (Nat → Nat) → Nat → Nat
  | _, 0 => 0
  | f, c + 1 => 2 ^ 64 * packL (fun j => f (j + 1)) c + f 0
theorem packL_test : ∀ (c : Nat) (f : Nat → Nat) (i : Nat), (∀ j, f j < 2 ^ 64) → (packL f c).testBit i = (decide (i / 64 < c) && (f (i / 64)).testBit (i % 64))
  | 0, f, i, _ => by simp [packL]
  | c + 1, f, i, h => by
    rw [packL, Nat.testBit_two_pow_mul_add _ (h 0)]
    by_cases hi : i < 64
    · rw [if_pos hi, Nat.div_eq_of_lt hi, Nat.mod_eq_of_lt hi]; simp
    · have e1 : i / 64 = (i - 64) / 64 + 1 := by omega
      have e2 : i % 64 = (i - 64) % 64 := by omega
      rw [if_neg hi, packL_test c _ (i - 64) (fun j => h (j + 1)), e1, e2]
      congr 1
      exact decide_eq_decide.2 (by omega)
theorem packL_mul : ∀ (c : Nat) (f : Nat → Nat) (w : Nat), packL f c * w = packL (fun j => f j * w) c
  | 0, f, w => by simp [packL]
  | c + 1, f, w => by
    rw [packL, packL, Nat.add_mul, Nat.mul_assoc, packL_mul c]
theorem packL_congr : ∀ (c : Nat) {f g : Nat → Nat}, (∀ j, j < c → f j = g j) → packL f c = packL g c
  | 0, _, _, _ => rfl
  | c + 1, f, g, h => by
    rw [packL, packL, h 0 (by omega), packL_congr c fun j hj => h (j + 1) (by omega)]
theorem xor64 {a b : Nat} (ha : a < 2 ^ 64) (hb : b < 2 ^ 64) : a ^^^ b < 2 ^ 64 := Nat.xor_lt_two_pow ha hb
theorem packL_xor (c : Nat) {f g : Nat → Nat} (hf : ∀ j, f j < 2 ^ 64) (hg : ∀ j, g j < 2 ^ 64) : packL f c ^^^ packL g c = packL (fun j => f j ^^^ g j) c := by
  refine Nat.eq_of_testBit_eq fun i => ?_
  rw [Nat.testBit_xor, packL_test c f i hf, packL_test c g i hg, packL_test c _ i (fun j => xor64 (hf j) (hg j)), Nat.testBit_xor]
  cases decide (i / 64 < c) <;> simp
def onesL (c : Nat) : Nat := packL (fun _ => 1) c
def bitF (ρ : Nat → Nat) (b : Nat) (j : Nat) : Nat := if (ρ j).testBit b then 1 else 0
theorem bitF_lt (ρ : Nat → Nat) (b j : Nat) : bitF ρ b j < 2 ^ 64 := by
  unfold bitF
  split <;> decide
theorem one_test (t : Nat) : (1 : Nat).testBit t = decide (t = 0) := by
  cases t with
  | zero => rfl
  | succ t =>
    rw [Nat.testBit_lt_two_pow (show 1 < 2 ^ (t + 1) by have := Nat.two_pow_pos t; omega)]
    simp
theorem mask_eq {ρ : Nat → Nat} (h : ∀ j, ρ j < 2 ^ 64) {b c : Nat} (hb : b < 64) : Nat.land (Nat.shiftRight (packL ρ c) b) (onesL c) = packL (bitF ρ b) c := by
  refine Nat.eq_of_testBit_eq fun i => ?_
  show ((packL ρ c >>> b) &&& onesL c).testBit i = _
  rw [Nat.testBit_and, Nat.testBit_shiftRight, packL_test c ρ _ h, onesL, packL_test c _ i (fun _ => by decide), packL_test c _ i (bitF_lt ρ b), one_test]
  by_cases e : i % 64 = 0
  · have e1 : (b + i) / 64 = i / 64 := by omega
    have e2 : (b + i) % 64 = b := by omega
    rw [e1, e2, e]
    unfold bitF
    cases decide (i / 64 < c) <;> cases (ρ (i / 64)).testBit b <;> rfl
  · rw [decide_eq_false e, Bool.and_false, Bool.and_false]
    unfold bitF
    split
    · rw [one_test, decide_eq_false e, Bool.and_false]
    · simp
/-- One more number in the place of each row that has the bit. -/
theorem pack_step {ρ : Nat → Nat} (h : ∀ j, ρ j < 2 ^ 64) {b c w : Nat} (hw : w < 2 ^ 64) : Nat.xor (packL ρ c) (packL (bitF ρ b) c * w) = packL (fun j => ph b w (ρ j)) c := by
  show packL ρ c ^^^ _ = _
  have hb : ∀ j, bitF ρ b j * w < 2 ^ 64 := fun j => by
    unfold bitF
    split
    · rw [Nat.one_mul]; exact hw
    · rw [Nat.zero_mul]; decide
  rw [packL_mul, packL_xor c h hb]
  refine packL_congr c fun j _ => ?_
  unfold bitF ph
  split
  · rw [Nat.one_mul]
  · rw [Nat.zero_mul, Nat.xor_zero]
theorem packL_zero {f : Nat → Nat} : ∀ c, packL f c = 0 → ∀ j, j < c → f j = 0
  | 0, _, j, h => absurd h (Nat.not_lt_zero j)
  | c + 1, h0, j, hj => by
    rw [packL] at h0
    have h1 : packL (fun j => f (j + 1)) c = 0 := by
      have : 0 < 2 ^ 64 := Nat.two_pow_pos 64
      rcases Nat.eq_zero_or_pos (packL (fun j => f (j + 1)) c) with e | e
      · exact e
      · have := Nat.mul_pos this e
        omega
    cases j with
    | zero => omega
    | succ j => exact packL_zero c h1 j (by omega)
theorem pack_row {ρ : Nat → Nat} (h : ∀ j, ρ j < 2 ^ 64) {c j : Nat} (hj : j < c) : (packL ρ c >>> (64 * j)) % 2 ^ 64 = ρ j := by
  refine Nat.eq_of_testBit_eq fun i => ?_
  rw [Nat.testBit_mod_two_pow, Nat.testBit_shiftRight, packL_test c ρ _ h]
  by_cases hi : i < 64
  · rw [show (64 * j + i) / 64 = j by omega, show (64 * j + i) % 64 = i by omega, decide_eq_true hi, decide_eq_true hj, Bool.true_and, Bool.true_and]
  · rw [decide_eq_false hi, Bool.false_and, Nat.testBit_lt_two_pow (Nat.lt_of_lt_of_le (h j) (Nat.pow_le_pow_right (by omega) (by omega)))]
/-- The lowest bit. -/
def lowB (m : Nat) : Nat := Nat.xor m (Nat.land m (Nat.pred m))
theorem low_ex : ∀ (n m : Nat), m ≤ n → m ≠ 0 → ∃ t, m.testBit t = true ∧ lowB m = 2 ^ t
  | 0, m, h, h0 => absurd (Nat.le_zero.1 h) h0
  | n + 1, m, h, h0 => by
    by_cases e : m % 2 = 1
    · refine ⟨0, by rw [Nat.testBit_zero]; exact decide_eq_true e, ?_⟩
      refine Nat.eq_of_testBit_eq fun i => ?_
      show (m ^^^ (m &&& (m - 1))).testBit i = _
      rw [Nat.testBit_xor, Nat.testBit_and, Nat.testBit_two_pow]
      cases i with
      | zero =>
        rw [Nat.testBit_zero, Nat.testBit_zero, decide_eq_true e, decide_eq_false (show ¬ (m - 1) % 2 = 1 by omega)]; rfl
      | succ i =>
        rw [Nat.testBit_succ, Nat.testBit_succ, show (m - 1) / 2 = m / 2 by omega, decide_eq_false (show ¬ 0 = i + 1 by omega)]
        cases (m / 2).testBit i <;> rfl
    · obtain ⟨t, h1, h2⟩ := low_ex n (m / 2) (by omega) (by omega)
      refine ⟨t + 1, by rw [Nat.testBit_succ]; exact h1, ?_⟩
      refine Nat.eq_of_testBit_eq fun i => ?_
      show (m ^^^ (m &&& (m - 1))).testBit i = _
      rw [Nat.testBit_xor, Nat.testBit_and, Nat.testBit_two_pow]
      cases i with
      | zero =>
        rw [Nat.testBit_zero, decide_eq_false e, decide_eq_false (show ¬ t + 1 = 0 by omega)]; rfl
      | succ i =>
        have h3 := congrArg (fun x => x.testBit i) h2
        simp only [lowB] at h3
        have h3 : ((m / 2) ^^^ ((m / 2) &&& (m / 2 - 1))).testBit i = (2 ^ t).testBit i := h3
        rw [Nat.testBit_xor, Nat.testBit_and, Nat.testBit_two_pow] at h3
        rw [Nat.testBit_succ, Nat.testBit_succ, show (m - 1) / 2 = m / 2 - 1 by omega, h3]
        exact decide_eq_decide.2 (by omega)
theorem mask_top {ρ : Nat → Nat} {b c : Nat} (h0 : packL (bitF ρ b) c ≠ 0) : ∃ j, j < c ∧ (ρ j).testBit b = true ∧ lowB (packL (bitF ρ b) c) = 2 ^ (64 * j) := by
  obtain ⟨i, ht, hl⟩ := low_ex _ _ (Nat.le_refl _) h0
  rw [packL_test c _ _ (bitF_lt ρ b)] at ht
  simp only [Bool.and_eq_true, decide_eq_true_eq] at ht
  obtain ⟨h1, h2⟩ := ht
  unfold bitF at h2
  split at h2
  · rename_i e
    rw [one_test] at h2
    have := of_decide_eq_true h2
    refine ⟨i / 64, h1, e, ?_⟩
    rw [hl, show 64 * (i / 64) = i by omega]
  · simp at h2
/-- The elimination on one number: the rank. -/
def prk (c : Nat) : Nat → Nat → Nat → Nat → Nat
  | 0, _, _, k => k
  | f + 1, b, M, k => cond (Nat.beq (Nat.land (Nat.shiftRight M b) (onesL c)) 0) (prk c f (b + 1) M k)
    (prk c f (b + 1) (Nat.xor M (Nat.mul (Nat.land (Nat.shiftRight M b) (onesL c)) (Nat.mod (Nat.div M (lowB (Nat.land (Nat.shiftRight M b) (onesL c)))) 18446744073709551616))) (k + 1))
theorem prk_no {ρ : Nat → Nat} (h : ∀ j, ρ j < 2 ^ 64) {c f b k : Nat} (hb : b < 64) (hno : ∀ j, j < c → (ρ j).testBit b = false) : prk c (f + 1) b (packL ρ c) k = prk c f (b + 1) (packL ρ c) k := by
  have e : packL (bitF ρ b) c = packL (fun _ => 0) c := packL_congr c fun j hj => by unfold bitF; rw [hno j hj]; rfl
  have e0 : ∀ c, packL (fun _ => 0) c = 0 := fun c => by
    induction c with
    | zero => rfl
    | succ c ih => rw [packL, ih]
  rw [prk, mask_eq h hb, e, e0]; rfl
theorem prk_yes {ρ : Nat → Nat} (h : ∀ j, ρ j < 2 ^ 64) {c f b k : Nat} (hb : b < 64) {j0 : Nat} (hj0 : j0 < c) (hyes : (ρ j0).testBit b = true) : ∃ w, (∃ j, j < c ∧ w = ρ j) ∧ w.testBit b = true ∧ prk c (f + 1) b (packL ρ c) k = prk c f (b + 1) (packL (fun j => ph b w (ρ j)) c) (k + 1) := by
  have h0 : packL (bitF ρ b) c ≠ 0 := fun e => by
    have := packL_zero c e j0 hj0
    unfold bitF at this
    rw [hyes] at this; cases this
  obtain ⟨j, hj, hbit, hlog⟩ := mask_top h0
  refine ⟨ρ j, ⟨j, hj, rfl⟩, hbit, ?_⟩
  rw [prk, mask_eq h hb, beq_f h0, hlog]
  show prk c f (b + 1) (Nat.xor (packL ρ c) (packL (bitF ρ b) c * ((packL ρ c / 2 ^ (64 * j)) % 2 ^ 64))) (k + 1) = _
  rw [← Nat.shiftRight_eq_div_pow]
  rw [pack_row h hj, pack_step h (h j)]
end Go.Proofs.YtimknijehaamlaaDoor
