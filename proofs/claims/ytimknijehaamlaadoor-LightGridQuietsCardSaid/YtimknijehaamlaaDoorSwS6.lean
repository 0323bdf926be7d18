/-
  Polynomials as numbers: the greatest common divisor. (Plain.)
-/
import Derived.Test.YtimknijehaamlaaDoorSwE9
set_option linter.unusedSimpArgs false
set_option linter.unusedVariables false
namespace Go.Proofs.YtimknijehaamlaaDoor
open Go Go.AH Go.Lin

def lenK (s : Nat) : Nat := cond (Nat.beq s 0) 0 (Nat.succ (Nat.log2 s))
def pN (own : Bool) : Nat → Nat × Nat
  | 0 => (0, 1)
  | k + 1 => ((pN own k).2, Nat.xor (Nat.xor (pN own k).1 (Nat.shiftLeft (pN own k).2 1)) (cond own (pN own k).2 0))
/-- The greatest common divisor, step by step. -/
def stp : Nat → Nat → Nat → Nat
  | 0, a, _ => a
  | f + 1, a, b => cond (Nat.beq b 0) a (cond (Nat.blt (lenK a) (lenK b)) (stp f b a) (stp f (Nat.xor a (Nat.shiftLeft b (Nat.sub (lenK a) (lenK b)))) b))
theorem lenK_zero : lenK 0 = 0 := rfl
theorem lenK_pos {s : Nat} (h : s ≠ 0) : lenK s = s.log2 + 1 := by
  unfold lenK
  cases e : Nat.beq s 0
  · rfl
  · exact absurd (Nat.eq_of_beq_eq_true e) h
theorem lenK_le {s n : Nat} : lenK s ≤ n ↔ s < 2 ^ n := by
  by_cases h : s = 0
  · subst h; rw [lenK_zero]; exact ⟨fun _ => Nat.two_pow_pos n, fun _ => Nat.zero_le n⟩
  · rw [lenK_pos h, ← Nat.log2_lt h]; omega
theorem lenK_top {s : Nat} (h : s ≠ 0) : s.testBit (lenK s - 1) = true := by
  rw [lenK_pos h, Nat.add_sub_cancel]
  by_cases e : s.testBit s.log2 = true
  · exact e
  · exfalso
    have : s < 2 ^ s.log2 := Nat.lt_pow_two_of_testBit s fun i hi => by
      by_cases e2 : i = s.log2
      · rw [e2]; simpa using e
      · exact Nat.testBit_lt_two_pow (Nat.lt_of_lt_of_le Nat.lt_log2_self (Nat.pow_le_pow_right (by omega) (by omega)))
    have := Nat.log2_self_le h
    omega
theorem lenK_eq0 {s : Nat} (h : lenK s = 0) : s = 0 := by
  by_cases e : s = 0
  · exact e
  · rw [lenK_pos e] at h; cases h
theorem len_dec {a b : Nat} (hb : b ≠ 0) (h : lenK b ≤ lenK a) : lenK (a ^^^ (b <<< (lenK a - lenK b))) < lenK a := by
  have hb1 := lenK_pos hb
  have ha : a ≠ 0 := fun e => by rw [e, lenK_zero] at h; omega
  have : a ^^^ (b <<< (lenK a - lenK b)) < 2 ^ (lenK a - 1) := by
    refine Nat.lt_pow_two_of_testBit _ fun i hi => ?_
    rw [Nat.testBit_xor, Nat.testBit_shiftLeft, decide_eq_true (show i ≥ lenK a - lenK b by omega), Bool.true_and]
    by_cases e : i = lenK a - 1
    · rw [e, lenK_top ha, show lenK a - 1 - (lenK a - lenK b) = lenK b - 1 by omega, lenK_top hb]; rfl
    · rw [Nat.testBit_lt_two_pow (lenK_le.1 (show lenK a ≤ i by omega)), Nat.testBit_lt_two_pow (lenK_le.1 (show lenK b ≤ i - (lenK a - lenK b) by omega))]; rfl
  have := lenK_le.2 this
  omega
/-- How many steps are left. -/
def mu (a b : Nat) : Nat := 2 * (lenK a + lenK b) + cond (Nat.blt (lenK a) (lenK b)) 1 0
theorem blt_t {a b : Nat} (h : a < b) : Nat.blt a b = true := Nat.ble_eq_true_of_le h
theorem blt_f {a b : Nat} (h : b ≤ a) : Nat.blt a b = false := by
  cases e : Nat.blt a b
  · rfl
  · have : a < b := Nat.le_of_ble_eq_true e
    omega
theorem stp_end (f a : Nat) : stp (f + 1) a 0 = a := rfl
theorem beq_f {b : Nat} (h : b ≠ 0) : Nat.beq b 0 = false := by
  cases e : Nat.beq b 0
  · rfl
  · exact absurd (Nat.eq_of_beq_eq_true e) h
theorem stp_swap {f a b : Nat} (hb : b ≠ 0) (h : lenK a < lenK b) : stp (f + 1) a b = stp f b a := by
  rw [stp, beq_f hb, blt_t h]; rfl
theorem stp_xor {f a b : Nat} (hb : b ≠ 0) (h : lenK b ≤ lenK a) : stp (f + 1) a b = stp f (a ^^^ (b <<< (lenK a - lenK b))) b := by
  rw [stp, beq_f hb, blt_f h]; rfl
theorem mu_swap {a b : Nat} (h : lenK a < lenK b) : mu b a < mu a b := by
  unfold mu
  rw [blt_t h, blt_f (by omega : lenK a ≤ lenK b)]
  simp only [cond_true, cond_false]; omega
theorem mu_xor {a b : Nat} (hb : b ≠ 0) (h : lenK b ≤ lenK a) : mu (a ^^^ (b <<< (lenK a - lenK b))) b < mu a b := by
  have := len_dec hb h
  unfold mu
  rw [blt_f h]
  simp only [cond_false]
  cases Nat.blt (lenK (a ^^^ b <<< (lenK a - lenK b))) (lenK b) <;> simp only [cond_true, cond_false] <;> omega
theorem mu_le {a b : Nat} (ha : lenK a ≤ 61) (hb : lenK b ≤ 61) : mu a b < 300 := by
  unfold mu
  cases Nat.blt (lenK a) (lenK b) <;> simp only [cond_true, cond_false] <;> omega

/-! As lists of booleans. -/
def bitN : List Bool → Nat
  | [] => 0
  | b :: L => 2 * bitN L + b.toNat
theorem bitN_test : ∀ (L : List Bool) (j : Nat), (bitN L).testBit j = L.getD j false
  | [], j => by simp [bitN]
  | b :: L, 0 => by
    rw [bitN, Nat.testBit_zero]
    cases b <;> simp <;> omega
  | b :: L, j + 1 => by
    rw [bitN, Nat.testBit_succ, show (2 * bitN L + b.toNat) / 2 = bitN L by cases b <;> simp <;> omega, bitN_test L j]
    rfl
def nB (p : PC) : Nat := bitN (p.1.take p.2)
theorem nB_test {p : PC} (t : Trim p) (j : Nat) : (nB p).testBit j = p.1.getD j false := by
  rw [nB, bitN_test, take_trim t]
theorem nB_sum {a b : PC} {s : Nat} (ha : a.2 ≤ a.1.length) (hb : b.2 ≤ b.1.length) (ta : Trim a) (tb : Trim b) : nB (sumQ a b s) = nB a ^^^ (nB b <<< s) := by
  refine Nat.eq_of_testBit_eq fun j => ?_
  rw [nB_test (sumQ_trim ha hb), sumQ_get hb ta tb, Nat.testBit_xor, Nat.testBit_shiftLeft, nB_test ta, nB_test tb]
theorem nB_len {p : PC} (h : Top p) (t : Trim p) : lenK (nB p) = p.2 := by
  by_cases e : p.2 = 0
  · have : nB p = 0 := by rw [nB, e]; rfl
    rw [this, e]; rfl
  · have h1 := h.top (by omega)
    rw [← nB_test t] at h1
    have h2 : lenK (nB p) ≤ p.2 := lenK_le.2 (Nat.lt_pow_two_of_testBit _ fun i hi => by rw [nB_test t]; exact t i hi)
    by_cases h3 : lenK (nB p) ≤ p.2 - 1
    · rw [Nat.testBit_lt_two_pow (lenK_le.1 h3)] at h1; cases h1
    · omega
theorem pathQ_nB (own : Bool) (i : Nat) : nB (pathQ own i).1 = (pN own i).1 ∧ nB (pathQ own i).2 = (pN own i).2 := by
  induction i with
  | zero => exact ⟨rfl, rfl⟩
  | succ i ih =>
    refine ⟨ih.2, ?_⟩
    have h1 := (pathQ_ok own i).1.le
    have h2 := (pathQ_ok own i).2.le
    have t1 := (pathQ_trim own i).1
    have t2 := (pathQ_trim own i).2
    rw [pathQ, pN]
    have e1 := nB_sum (s := 1) h1 h2 t1 t2
    rw [ih.1, ih.2] at e1
    cases own
    · show nB (sumQ _ _ 1) = Nat.xor (Nat.xor _ _) 0
      rw [e1]; exact (Nat.xor_zero _).symm
    · show nB (sumQ (sumQ _ _ 1) _ 0) = _
      have h3 := (sumQ_ok (pathQ_ok true i).1 (pathQ_ok true i).2 (s := 1)).le
      rw [nB_sum h3 h2 (sumQ_trim h1 h2) t2, e1, ih.2, Nat.shiftLeft_zero]; rfl
theorem comQ_end {a b : PC} (h : b.2 = 0) : comQ a b = a := by
  rw [comQ, gcdQ, if_neg (by omega)]
theorem comQ_swap {a b : PC} (ha : Top a) (hb : Top b) (h : a.2 < b.2) : comQ a b = comQ b a := by
  rw [comQ, gcdQ, if_pos (by omega), modQ, if_neg (by omega), gcdQ_fuel b.2 b a hb ha h]; rfl
theorem comQ_xor {a b : PC} (ha : Top a) (hb : Top b) (h0 : 0 < b.2) (h : b.2 ≤ a.2) : comQ a b = comQ (sumQ a b (a.2 - b.2)) b := by
  have hd := sumQ_dec ha hb h0 h
  have ht := sumQ_top (a := a) (b := b) (s := a.2 - b.2) ha.le hb.le
  rw [comQ, gcdQ, if_pos h0, modQ, if_pos h, modQ_fuel hb h0 a.2 _ ht (by omega), comQ, gcdQ, if_pos h0]
theorem com_stp : ∀ (f : Nat) (a b : PC), Top a → Trim a → Top b → Trim b → mu (nB a) (nB b) < f → lenK (stp f (nB a) (nB b)) = (comQ a b).2
  | 0, _, _, _, _, _, _, h => absurd h (Nat.not_lt_zero _)
  | f + 1, a, b, ha, ta, hb, tb, h => by
    have la := nB_len ha ta
    have lb := nB_len hb tb
    by_cases h0 : b.2 = 0
    · have e : nB b = 0 := lenK_eq0 (by rw [lb, h0])
      rw [comQ_end h0, e, stp_end, la]
    · have e : nB b ≠ 0 := fun e => h0 (by rw [← lb, e]; rfl)
      by_cases hl : a.2 < b.2
      · have hl2 : lenK (nB a) < lenK (nB b) := by rw [la, lb]; exact hl
        have := mu_swap hl2
        rw [stp_swap e hl2, comQ_swap ha hb hl]
        exact com_stp f b a hb tb ha ta (by omega)
      · have hl2 : lenK (nB b) ≤ lenK (nB a) := by rw [la, lb]; omega
        have := mu_xor e hl2
        have hn := nB_sum (s := a.2 - b.2) ha.le hb.le ta tb
        rw [stp_xor e hl2, comQ_xor ha hb (by omega) (by omega), la, lb, ← hn]
        refine com_stp f _ b (sumQ_top ha.le hb.le) (sumQ_trim ha.le hb.le) hb tb ?_
        rw [hn, ← la, ← lb]; omega
/-- A grid's number of quiet sets, one more. -/
def gN (own : Bool) (r c : Nat) : Nat := lenK (stp 300 (pN own r).2 (pN false c).2)
theorem pN_len (own : Bool) (i : Nat) : lenK (pN own i).2 ≤ i + 1 := by
  rw [← (pathQ_nB own i).2, nB_len (pathQ_top own i).2 (pathQ_trim own i).2]
  exact (pathQ_ok own i).2.k
theorem com_gN (own : Bool) {r c : Nat} (hr : r ≤ 60) (hc : c ≤ 60) : (comQ (pathC (r + 1) own) (pathC (c + 1) false)).2 = gN own r c := by
  show (comQ (pathQ own r).2 (pathQ false c).2).2 = _
  have h1 := pN_len own r
  have h2 := pN_len false c
  have e1 := (pathQ_nB own r).2
  have e2 := (pathQ_nB false c).2
  rw [gN, ← e1, ← e2]
  refine (com_stp 300 _ _ (pathQ_top own r).2 (pathQ_trim own r).2 (pathQ_top false c).2 (pathQ_trim false c).2 ?_).symm
  rw [e1, e2]
  exact mu_le (by omega) (by omega)
end Go.Proofs.YtimknijehaamlaaDoor
