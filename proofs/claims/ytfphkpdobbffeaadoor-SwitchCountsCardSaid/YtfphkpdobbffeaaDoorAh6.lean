/-
  The steps of A3 are what the machine does: numbers.
-/
import Derived.Test.YtfphkpdobbffeaaDoorAh5
set_option linter.unusedSimpArgs false
set_option linter.unusedVariables false
namespace Go.AH
open Go.RowKit

theorem wrap_small (kd : IntKind) (n : Int) (h0 : 0 ≤ n) (h1 : n < 2 ^ kd.bits) (h2 : kd.signed = true → n < 2 ^ (kd.bits - 1)) : kd.wrap n = n := by
  have e : n % (2 ^ kd.bits : Int) = n := Int.emod_eq_of_lt h0 h1
  unfold IntKind.wrap
  simp only [e]
  split
  · rename_i h; simp only [Bool.and_eq_true, decide_eq_true_eq] at h; have := h2 h.1; omega
  · rfl
theorem wrap_i64_eq (n : Int) : IntKind.i64.wrap n = if 9223372036854775808 ≤ n % 18446744073709551616 then n % 18446744073709551616 - 18446744073709551616 else n % 18446744073709551616 := by
  simp [IntKind.wrap, IntKind.bits, IntKind.signed]
theorem wrap_I64 (n : Int) (h : I64 n) : IntKind.i64.wrap n = n := by
  obtain ⟨h1, h2⟩ := h
  rw [wrap_i64_eq]
  split <;> omega

theorem nat_andNot (a b : Nat) (ha : a < 2 ^ 64) (hb : b < 2 ^ 64) : a &&& (2 ^ 64 - 1 - b) = a ^^^ (a &&& b) := by
  apply Nat.eq_of_testBit_eq
  intro i
  simp only [Nat.testBit_and, Nat.testBit_xor]
  rw [show 2 ^ 64 - 1 - b = 2 ^ 64 - (b + 1) by omega, Nat.testBit_two_pow_sub_succ hb]
  by_cases hi : i < 64
  · simp only [hi, decide_true, Bool.true_and]
    cases a.testBit i <;> cases b.testBit i <;> rfl
  · have : a.testBit i = false := Nat.testBit_lt_two_pow (Nat.lt_of_lt_of_le ha (Nat.pow_le_pow_right (by decide) (by omega)))
    simp [this]

theorem ofInt_toNat (a : Int) (h0 : 0 ≤ a) (h1 : a < 9223372036854775808) : (BitVec.ofInt 64 a).toNat = a.toNat := by
  rw [BitVec.toNat_ofInt]
  have : (((2 ^ 64 : Nat)) : Int) = 18446744073709551616 := by decide
  rw [this, Int.emod_eq_of_lt h0 (by omega)]

theorem wrap_bits (kd : IntKind) (hb : kd.bits = 64) (n : Nat) (hn : n < 2 ^ 63) : kd.wrap (n : Int) = n := by
  have h63 : ((2 : Int) ^ 63) = ((2 ^ 63 : Nat) : Int) := by decide
  have h64 : ((2 : Int) ^ 64) = 18446744073709551616 := by decide
  have h63' : (2 : Nat) ^ 63 = 9223372036854775808 := by decide
  refine wrap_small kd n (by omega) (by rw [hb, h64]; omega) (fun _ => by rw [hb, show 64 - 1 = 63 from rfl, h63]; omega)

theorem bits_lt {a : Int} (h0 : 0 ≤ a) (h1 : a < 9223372036854775808) : a.toNat < 2 ^ 63 := by
  have : (2 : Nat) ^ 63 = 9223372036854775808 := by decide
  omega
theorem lt63_64 {n : Nat} (h : n < 2 ^ 63) : n < 2 ^ 64 := Nat.lt_of_lt_of_le h (by decide)

theorem ofInt_toNat' (kd : IntKind) (hb : kd.bits = 64) (a : Int) (h0 : 0 ≤ a) (h1 : a < 9223372036854775808) : (BitVec.ofInt kd.bits a).toNat = a.toNat := by
  rw [hb]; exact ofInt_toNat a h0 h1

theorem and_sound (kd : IntKind) (a b : Int) (h : 0 ≤ a ∧ a < 9223372036854775808 ∧ 0 ≤ b ∧ b < 9223372036854775808 ∧ kd.bits = 64) :
    kd.wrap ((BitVec.ofInt kd.bits a &&& BitVec.ofInt kd.bits b).toNat) = ((a.toNat &&& b.toNat : Nat) : Int) := by
  obtain ⟨h1, h2, h3, h4, h5⟩ := h
  rw [BitVec.toNat_and, ofInt_toNat' kd h5 a h1 h2, ofInt_toNat' kd h5 b h3 h4]
  exact wrap_bits kd h5 _ (Nat.and_lt_two_pow _ (bits_lt h3 h4))
theorem or_sound (kd : IntKind) (a b : Int) (h : 0 ≤ a ∧ a < 9223372036854775808 ∧ 0 ≤ b ∧ b < 9223372036854775808 ∧ kd.bits = 64) :
    kd.wrap ((BitVec.ofInt kd.bits a ||| BitVec.ofInt kd.bits b).toNat) = ((a.toNat ||| b.toNat : Nat) : Int) := by
  obtain ⟨h1, h2, h3, h4, h5⟩ := h
  rw [BitVec.toNat_or, ofInt_toNat' kd h5 a h1 h2, ofInt_toNat' kd h5 b h3 h4]
  exact wrap_bits kd h5 _ (Nat.or_lt_two_pow (bits_lt h1 h2) (bits_lt h3 h4))
theorem xor_sound (kd : IntKind) (a b : Int) (h : 0 ≤ a ∧ a < 9223372036854775808 ∧ 0 ≤ b ∧ b < 9223372036854775808 ∧ kd.bits = 64) :
    kd.wrap ((BitVec.ofInt kd.bits a ^^^ BitVec.ofInt kd.bits b).toNat) = ((a.toNat ^^^ b.toNat : Nat) : Int) := by
  obtain ⟨h1, h2, h3, h4, h5⟩ := h
  rw [BitVec.toNat_xor, ofInt_toNat' kd h5 a h1 h2, ofInt_toNat' kd h5 b h3 h4]
  exact wrap_bits kd h5 _ (Nat.xor_lt_two_pow (bits_lt h1 h2) (bits_lt h3 h4))
theorem andNot_sound (kd : IntKind) (a b : Int) (h : 0 ≤ a ∧ a < 9223372036854775808 ∧ 0 ≤ b ∧ b < 9223372036854775808 ∧ kd.bits = 64) :
    kd.wrap ((BitVec.ofInt kd.bits a &&& ~~~ BitVec.ofInt kd.bits b).toNat) = ((a.toNat ^^^ (a.toNat &&& b.toNat) : Nat) : Int) := by
  obtain ⟨h1, h2, h3, h4, h5⟩ := h
  rw [BitVec.toNat_and, BitVec.toNat_not, ofInt_toNat' kd h5 a h1 h2, ofInt_toNat' kd h5 b h3 h4, h5, nat_andNot _ _ (lt63_64 (bits_lt h1 h2)) (lt63_64 (bits_lt h3 h4))]
  exact wrap_bits kd h5 _ (Nat.xor_lt_two_pow (bits_lt h1 h2) (Nat.and_lt_two_pow _ (bits_lt h3 h4)))

variable {P : Program} {T : Nat → Option TI} {md : Bool} {E : Env} {R : Ren} {s : AS} {a : Act} {w : World}

theorem iop_sound {op : BinOp} {kd kb : IntKind} {x y : Int} {k : Int → Prop} (t : TypeId) (w : World) (h : iop md op kd x y k) (ho : isArith op = true) (hk : op = .shl ∨ op = .shr ∨ kd = kb) :
    ∃ n, k n ∧ (binOp op t (.int kd x) (.int kb y)).run P w = .ok (.int kd n) w := by
  have hsh : op ≠ .shl → op ≠ .shr → kd = kb := fun h1 h2 => by rcases hk with h | h | h <;> first | exact absurd h h1 | exact absurd h h2 | exact h
  cases op <;> simp only [isArith, Bool.false_eq_true] at ho
  case add =>
    obtain rfl := hsh (by decide) (by decide)
    have : ∀ n, kd.wrap (x + y) = n → (binOp .add t (.int kd x) (.int kd y)).run P w = .ok (.int kd n) w := fun n hn => by simp [binOp, Op.intArith, hn]
    cases md <;> cases kd <;> simp only [iop] at h <;> first | exact ⟨_, h.2, this _ (wrap_I64 _ h.1)⟩ | exact ⟨_, h, this _ rfl⟩
  case sub =>
    obtain rfl := hsh (by decide) (by decide)
    have : ∀ n, kd.wrap (x - y) = n → (binOp .sub t (.int kd x) (.int kd y)).run P w = .ok (.int kd n) w := fun n hn => by simp [binOp, Op.intArith, hn]
    cases md <;> cases kd <;> simp only [iop] at h <;> first | exact ⟨_, h.2, this _ (wrap_I64 _ h.1)⟩ | exact ⟨_, h, this _ rfl⟩
  case mul =>
    obtain rfl := hsh (by decide) (by decide)
    have : ∀ n, kd.wrap (x * y) = n → (binOp .mul t (.int kd x) (.int kd y)).run P w = .ok (.int kd n) w := fun n hn => by simp [binOp, Op.intArith, hn]
    cases md <;> cases kd <;> simp only [iop] at h <;> first | exact ⟨_, h.2, this _ (wrap_I64 _ h.1)⟩ | exact ⟨_, h, this _ rfl⟩
  case quo =>
    obtain rfl := hsh (by decide) (by decide)
    have : ∀ n, y ≠ 0 → kd.wrap (x.tdiv y) = n → (binOp .quo t (.int kd x) (.int kd y)).run P w = .ok (.int kd n) w := fun n h0 hn => by simp [binOp, Op.intDiv, hn, h0]
    cases md with
    | false => simp only [iop] at h; exact ⟨_, h.2, this _ h.1 rfl⟩
    | true =>
      simp only [iop] at h
      obtain ⟨⟨h1, h2, h3, h4⟩, h⟩ := h
      refine ⟨_, h, this _ (by omega) ?_⟩
      rw [Int.tdiv_eq_ediv_of_nonneg h1]
      have h5 : x / y ≤ x := Int.ediv_le_self _ h1
      exact wrap_small kd _ (Int.ediv_nonneg h1 (by omega)) (by omega) (fun hs => by have := h4 hs; omega)
  case rem =>
    obtain rfl := hsh (by decide) (by decide)
    have : ∀ n, y ≠ 0 → x.tmod y = n → (binOp .rem t (.int kd x) (.int kd y)).run P w = .ok (.int kd n) w := fun n h0 hn => by simp [binOp, Op.intDiv, hn, h0]
    cases md with
    | false => simp only [iop] at h; exact ⟨_, h.2, this _ h.1 rfl⟩
    | true =>
      simp only [iop] at h
      exact ⟨_, h.2, this _ (by omega) (Int.tmod_eq_emod_of_nonneg h.1.1)⟩
  case and =>
    obtain rfl := hsh (by decide) (by decide)
    have : ∀ n, kd.wrap ((BitVec.ofInt kd.bits x &&& BitVec.ofInt kd.bits y).toNat) = n → (binOp .and t (.int kd x) (.int kd y)).run P w = .ok (.int kd n) w := fun n hn => by simp only [binOp, Op.intBits, ne_eq, not_true_eq_false, if_false, Sem.run_pure, hn]
    cases md with
    | false => simp only [iop] at h; exact ⟨_, h, this _ rfl⟩
    | true => simp only [iop] at h; exact ⟨_, h.2, this _ (and_sound kd x y h.1)⟩
  case or =>
    obtain rfl := hsh (by decide) (by decide)
    have : ∀ n, kd.wrap ((BitVec.ofInt kd.bits x ||| BitVec.ofInt kd.bits y).toNat) = n → (binOp .or t (.int kd x) (.int kd y)).run P w = .ok (.int kd n) w := fun n hn => by simp only [binOp, Op.intBits, ne_eq, not_true_eq_false, if_false, Sem.run_pure, hn]
    cases md with
    | false => simp only [iop] at h; exact ⟨_, h, this _ rfl⟩
    | true => simp only [iop] at h; exact ⟨_, h.2, this _ (or_sound kd x y h.1)⟩
  case xor =>
    obtain rfl := hsh (by decide) (by decide)
    have : ∀ n, kd.wrap ((BitVec.ofInt kd.bits x ^^^ BitVec.ofInt kd.bits y).toNat) = n → (binOp .xor t (.int kd x) (.int kd y)).run P w = .ok (.int kd n) w := fun n hn => by simp only [binOp, Op.intBits, ne_eq, not_true_eq_false, if_false, Sem.run_pure, hn]
    cases md with
    | false => simp only [iop] at h; exact ⟨_, h, this _ rfl⟩
    | true => simp only [iop] at h; exact ⟨_, h.2, this _ (xor_sound kd x y h.1)⟩
  case andNot =>
    obtain rfl := hsh (by decide) (by decide)
    have : ∀ n, kd.wrap ((BitVec.ofInt kd.bits x &&& ~~~ BitVec.ofInt kd.bits y).toNat) = n → (binOp .andNot t (.int kd x) (.int kd y)).run P w = .ok (.int kd n) w := fun n hn => by simp only [binOp, Op.intBits, ne_eq, not_true_eq_false, if_false, Sem.run_pure, hn]
    cases md with
    | false => simp only [iop] at h; exact ⟨_, h, this _ rfl⟩
    | true => simp only [iop] at h; exact ⟨_, h.2, this _ (andNot_sound kd x y h.1)⟩
  case shl =>
    have : ∀ n, 0 ≤ y → kd.wrap (x * 2 ^ (min y.toNat kd.bits)) = n → (binOp .shl t (.int kd x) (.int kb y)).run P w = .ok (.int kd n) w := fun n h0 hn => by
      simp only [binOp, Op.shift, if_neg (show ¬ y < 0 by omega), Sem.run_pure, hn]
    by_cases hkd : md = true ∧ kd = .i64
    · obtain ⟨rfl, rfl⟩ := hkd
      simp only [iop] at h
      obtain ⟨⟨h1, h2, h3⟩, h⟩ := h
      refine ⟨_, h, this _ h1 ?_⟩
      rw [show min y.toNat IntKind.i64.bits = y.toNat by simp [IntKind.bits]; omega]
      exact wrap_I64 _ h3
    · have hx : iop md .shl kd x y k = (0 ≤ y ∧ k (kd.wrap (x * 2 ^ (min y.toNat kd.bits)))) := by
        cases md <;> cases kd <;> first | rfl | exact absurd ⟨rfl, rfl⟩ hkd
      rw [hx] at h
      exact ⟨_, h.2, this _ h.1 rfl⟩
  case shr =>
    have : ∀ n, 0 ≤ y → x.fdiv (2 ^ (min y.toNat kd.bits)) = n → (binOp .shr t (.int kd x) (.int kb y)).run P w = .ok (.int kd n) w := fun n h0 hn => by
      simp only [binOp, Op.shift, if_neg (show ¬ y < 0 by omega), Sem.run_pure, hn]
    cases md with
    | false => simp only [iop] at h; exact ⟨_, h.2, this _ h.1 rfl⟩
    | true =>
      simp only [iop] at h
      obtain ⟨⟨h1, h2⟩, h⟩ := h
      refine ⟨_, h, this _ h1 ?_⟩
      rw [show min y.toNat kd.bits = y.toNat by omega]
      exact Int.fdiv_eq_ediv_of_nonneg _ (Int.le_of_lt (Int.pow_pos (by decide)))

theorem icmp_sound {op : BinOp} {kd : IntKind} {x y : Int} {k : Bool → Prop} (t : TypeId) (w : World) (h : icmp op x y k) (ho : isArith op = false) :
    ∃ r, k r ∧ (binOp op t (.int kd x) (.int kd y)).run P w = .ok (.bool r) w := by
  cases op <;> simp only [isArith, Bool.true_eq_false] at ho <;> simp only [icmp] at h <;>
    (refine ⟨_, h, ?_⟩; simp only [binOp, Op.intCmp, ne_eq, not_true_eq_false, if_false, Sem.run_pure]) <;>
    first | rfl | (rw [show (x == y) = decide (x = y) from by rw [Bool.eq_iff_iff]; simp]) | (rw [show (x != y) = decide (¬ x = y) from by rw [Bool.eq_iff_iff]; simp])

end Go.AH
