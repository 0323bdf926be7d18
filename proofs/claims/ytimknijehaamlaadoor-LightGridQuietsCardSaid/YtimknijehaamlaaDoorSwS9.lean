/-
  Closed facts on the polynomials of paths of at most 60 lamps. (Plain.)
-/
import Derived.Test.YtimknijehaamlaaDoorSwS90
set_option linter.unusedSimpArgs false
set_option linter.unusedVariables false
namespace Go.Proofs.YtimknijehaamlaaDoor
open Go Go.AH Go.Lin
set_option maxRecDepth 1000000

theorem all_at {n : Nat} {p : Nat → Bool} (h : (List.range n).all p = true) {k : Nat} (hk : k < n) : p k = true := List.all_eq_true.1 h k (List.mem_range.2 hk)
theorem gN_true {r c : Nat} (hr : 1 ≤ r) (hc : 1 ≤ c) (hr2 : r ≤ 60) (hc2 : c ≤ 60) : gN true r c = gN true c r := by
  have key : ∀ r c : Nat, c < r → 1 ≤ c → r ≤ 60 → gN true r c = gN true c r := fun r c h1 h2 h3 => by
    have := all_at (all_at kA_all (k := r - 1) (by omega)) (k := c - 1) (by omega)
    have := Nat.eq_of_beq_eq_true this
    rwa [Nat.sub_add_cancel (by omega), Nat.sub_add_cancel (by omega)] at this
  rcases Nat.lt_trichotomy r c with h | h | h
  · exact (key c r h hr hc2).symm
  · rw [h]
  · exact key r c h hc hr2
theorem pN_lenE (own : Bool) {k : Nat} (hk : k ≤ 60) : lenK (pN own k).2 = k + 1 := by
  have := all_at kL_all (k := k) (by omega)
  simp only [Bool.and_eq_true] at this
  cases own
  · exact Nat.eq_of_beq_eq_true this.1
  · exact Nat.eq_of_beq_eq_true this.2
theorem shift_eq {k : Nat} (hk : k ≤ 60) : hD (pN false k).2 201 = (pN true k).2 := Nat.eq_of_beq_eq_true (all_at kS_all (k := k) (by omega))
theorem stp_fuel : ∀ (f a b : Nat), mu a b < f → stp (f + 1) a b = stp f a b
  | 0, _, _, h => absurd h (Nat.not_lt_zero _)
  | f + 1, a, b, h => by
    by_cases hb : b = 0
    · subst hb; rfl
    · by_cases hl : lenK a < lenK b
      · rw [stp_swap hb hl, stp_swap hb hl]
        have := mu_swap hl
        exact stp_fuel f b a (by omega)
      · have hle : lenK b ≤ lenK a := by omega
        rw [stp_xor hb hle, stp_xor hb hle]
        have hm := mu_xor hb hle
        exact stp_fuel f (a ^^^ (b <<< (lenK a - lenK b))) b (by omega)
theorem pN_ne (own : Bool) {k : Nat} (hk : k ≤ 60) : (pN own k).2 ≠ 0 := fun e => by
  have := pN_lenE own hk
  rw [e] at this; cases this
/-- The other way round. -/
theorem stp_turn {a b : Nat} (ha : a ≠ 0) (hb : b ≠ 0) (ha2 : lenK a ≤ 61) (hb2 : lenK b ≤ 61) (h : lenK a ≠ lenK b) : stp 300 a b = stp 300 b a := by
  have key : ∀ a b : Nat, b ≠ 0 → lenK a ≤ 61 → lenK b ≤ 61 → lenK a < lenK b → stp 300 a b = stp 300 b a := fun a b hb ha2 hb2 h => by
    have h1 : stp 300 a b = stp 299 b a := stp_swap hb h
    rw [h1]
    have h3 := mu_swap h
    have h4 := mu_le ha2 hb2
    exact (stp_fuel 299 b a (by omega)).symm
  rcases Nat.lt_or_gt_of_ne h with h | h
  · exact key a b hb ha2 hb2 h
  · exact (key b a ha hb2 ha2 h).symm
theorem want_eq (own : Bool) {r c : Nat} (hr : r ≤ 60) (hc : c ≤ 60) : lenK (stp 300 (pN false c).2 (pN own r).2) = gN own r c := by
  by_cases e : r = c
  · subst e
    cases own
    · rfl
    · exact Nat.eq_of_beq_eq_true (all_at kD_all (k := r) (by omega))
  · have l1 := pN_lenE own hr
    have l2 := pN_lenE false hc
    rw [gN, stp_turn (pN_ne own hr) (pN_ne false hc) (by omega) (by omega) (by omega)]
theorem gN_sym (own : Bool) {r c : Nat} (hr : 1 ≤ r) (hc : 1 ≤ c) (hr2 : r ≤ 60) (hc2 : c ≤ 60) : gN own c r = gN own r c := by
  cases own
  · rw [← want_eq false hc2 hr2]; rfl
  · exact gN_true hc hr hc2 hr2
end Go.Proofs.YtimknijehaamlaaDoor
