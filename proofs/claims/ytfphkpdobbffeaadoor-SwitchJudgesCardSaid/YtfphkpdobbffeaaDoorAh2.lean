/-
  The steps of A3 are what the machine does: numbers.
-/
import Derived.Test.YtfphkpdobbffeaaDoorAh1
import Derived.Lib.SliceRun
import Derived.Maps.AppendAt
import Derived.Laws.IdiomStrings
import Derived.Great.FillDense
set_option linter.unusedSimpArgs false
set_option linter.unusedVariables false
namespace Go.AH
open Go.RowKit

theorem wrap_small (kd : IntKind) (n : Int) (h0 : 0 ≤ n) (h1 : n < 2 ^ kd.bits) (h2 : kd.signed = true → n < 2 ^ (kd.bits - 1)) : kd.wrap n = n := by
  have e : n % (2 ^ kd.bits : Int) = n := Int.emod_eq_of_lt h0 h1
  unfold IntKind.wrap
  simp only [e]
  split
  · rename_i h; simp only [Bool.and_eq_true, decide_eq_true_eq] at h; have := h2 h.1; omega
  · rfl
theorem wrap_i64_eq (n : Int) : IntKind.i64.wrap n = if 9223372036854775808 ≤ n % 18446744073709551616 then n % 18446744073709551616 - 18446744073709551616 else n % 18446744073709551616 := by
  simp [IntKind.wrap, IntKind.bits, IntKind.signed]
theorem wrap_I64 (n : Int) (h : I64 n) : IntKind.i64.wrap n = n := by
  obtain ⟨h1, h2⟩ := h
  rw [wrap_i64_eq]
  split <;> omega

theorem nat_andNot (a b : Nat) (ha : a < 2 ^ 64) (hb : b < 2 ^ 64) : a &&& (2 ^ 64 - 1 - b) = a ^^^ (a &&& b) := by
  apply Nat.eq_of_testBit_eq
  intro i
  simp only [Nat.testBit_and, Nat.testBit_xor]
  rw [show 2 ^ 64 - 1 - b = 2 ^ 64 - (b + 1) by omega, Nat.testBit_two_pow_sub_succ hb]
  by_cases hi : i < 64
  · simp only [hi, decide_true, Bool.true_and]
    cases a.testBit i <;> cases b.testBit i <;> rfl
  · have : a.testBit i = false := Nat.testBit_lt_two_pow (Nat.lt_of_lt_of_le ha (Nat.pow_le_pow_right (by decide) (by omega)))
    simp [this]

theorem ofInt_toNat (a : Int) (h0 : 0 ≤ a) (h1 : a < 9223372036854775808) : (BitVec.ofInt 64 a).toNat = a.toNat := by
  rw [BitVec.toNat_ofInt]
  have : (((2 ^ 64 : Nat)) : Int) = 18446744073709551616 := by decide
  rw [this, Int.emod_eq_of_lt h0 (by omega)]

theorem wrap_bits (kd : IntKind) (hb : kd.bits = 64) (n : Nat) (hn : n < 2 ^ 63) : kd.wrap (n : Int) = n := by
  have h63 : ((2 : Int) ^ 63) = ((2 ^ 63 : Nat) : Int) := by decide
  have h64 : ((2 : Int) ^ 64) = 18446744073709551616 := by decide
  have h63' : (2 : Nat) ^ 63 = 9223372036854775808 := by decide
  refine wrap_small kd n (by omega) (by rw [hb, h64]; omega) (fun _ => by rw [hb, show 64 - 1 = 63 from rfl, h63]; omega)

theorem bits_lt {a : Int} (h0 : 0 ≤ a) (h1 : a < 9223372036854775808) : a.toNat < 2 ^ 63 := by
  have : (2 : Nat) ^ 63 = 9223372036854775808 := by decide
  omega
theorem lt63_64 {n : Nat} (h : n < 2 ^ 63) : n < 2 ^ 64 := Nat.lt_of_lt_of_le h (by decide)

theorem ofInt_toNat' (kd : IntKind) (hb : kd.bits = 64) (a : Int) (h0 : 0 ≤ a) (h1 : a < 9223372036854775808) : (BitVec.ofInt kd.bits a).toNat = a.toNat := by
  rw [hb]; exact ofInt_toNat a h0 h1

theorem and_sound (kd : IntKind) (a b : Int) (h : 0 ≤ a ∧ a < 9223372036854775808 ∧ 0 ≤ b ∧ b < 9223372036854775808 ∧ kd.bits = 64) :
    kd.wrap ((BitVec.ofInt kd.bits a &&& BitVec.ofInt kd.bits b).toNat) = ((a.toNat &&& b.toNat : Nat) : Int) := by
  obtain ⟨h1, h2, h3, h4, h5⟩ := h
  rw [BitVec.toNat_and, ofInt_toNat' kd h5 a h1 h2, ofInt_toNat' kd h5 b h3 h4]
  exact wrap_bits kd h5 _ (Nat.and_lt_two_pow _ (bits_lt h3 h4))
theorem or_sound (kd : IntKind) (a b : Int) (h : 0 ≤ a ∧ a < 9223372036854775808 ∧ 0 ≤ b ∧ b < 9223372036854775808 ∧ kd.bits = 64) :
    kd.wrap ((BitVec.ofInt kd.bits a ||| BitVec.ofInt kd.bits b).toNat) = ((a.toNat ||| b.toNat : Nat) : Int) := by
  obtain ⟨h1, h2, h3, h4, h5⟩ := h
  rw [BitVec.toNat_or, ofInt_toNat' kd h5 a h1 h2, ofInt_toNat' kd h5 b h3 h4]
  exact wrap_bits kd h5 _ (Nat.or_lt_two_pow (bits_lt h1 h2) (bits_lt h3 h4))
theorem xor_sound (kd : IntKind) (a b : Int) (h : 0 ≤ a ∧ a < 9223372036854775808 ∧ 0 ≤ b ∧ b < 9223372036854775808 ∧ kd.bits = 64) :
    kd.wrap ((BitVec.ofInt kd.bits a ^^^ BitVec.ofInt kd.bits b).toNat) = ((a.toNat ^^^ b.toNat : Nat) : Int) := by
  obtain ⟨h1, h2, h3, h4, h5⟩ := h
  rw [BitVec.toNat_xor, ofInt_toNat' kd h5 a h1 h2, ofInt_toNat' kd h5 b h3 h4]
  exact wrap_bits kd h5 _ (Nat.xor_lt_two_pow (bits_lt h1 h2) (bits_lt h3 h4))
theorem andNot_sound (kd : IntKind) (a b : Int) (h : 0 ≤ a ∧ a < 9223372036854775808 ∧ 0 ≤ b ∧ b < 9223372036854775808 ∧ kd.bits = 64) :
    kd.wrap ((BitVec.ofInt kd.bits a &&& ~~~ BitVec.ofInt kd.bits b).toNat) = ((a.toNat ^^^ (a.toNat &&& b.toNat) : Nat) : Int) := by
  obtain ⟨h1, h2, h3, h4, h5⟩ := h
  rw [BitVec.toNat_and, BitVec.toNat_not, ofInt_toNat' kd h5 a h1 h2, ofInt_toNat' kd h5 b h3 h4, h5, nat_andNot _ _ (lt63_64 (bits_lt h1 h2)) (lt63_64 (bits_lt h3 h4))]
  exact wrap_bits kd h5 _ (Nat.xor_lt_two_pow (bits_lt h1 h2) (Nat.and_lt_two_pow _ (bits_lt h3 h4)))

variable {P : Program} {T : Nat → Option TI} {md : Bool} {E : Env} {R : Ren} {s : AS} {a : Act} {w : World}

theorem iop_sound {op : BinOp} {kd kb : IntKind} {x y : Int} {k : Int → Prop} (t : TypeId) (w : World) (h : iop md op kd x y k) (ho : isArith op = true) (hk : op = .shl ∨ op = .shr ∨ kd = kb) :
    ∃ n, k n ∧ (binOp op t (.int kd x) (.int kb y)).run P w = .ok (.int kd n) w := by
  have hsh : op ≠ .shl → op ≠ .shr → kd = kb := fun h1 h2 => by rcases hk with h | h | h <;> first | exact absurd h h1 | exact absurd h h2 | exact h
  cases op <;> simp only [isArith, Bool.false_eq_true] at ho
  case add =>
    obtain rfl := hsh (by decide) (by decide)
    have : ∀ n, kd.wrap (x + y) = n → (binOp .add t (.int kd x) (.int kd y)).run P w = .ok (.int kd n) w := fun n hn => by simp [binOp, Op.intArith, hn]
    cases md <;> cases kd <;> simp only [iop] at h <;> first | exact ⟨_, h.2, this _ (wrap_I64 _ h.1)⟩ | exact ⟨_, h, this _ rfl⟩
  case sub =>
    obtain rfl := hsh (by decide) (by decide)
    have : ∀ n, kd.wrap (x - y) = n → (binOp .sub t (.int kd x) (.int kd y)).run P w = .ok (.int kd n) w := fun n hn => by simp [binOp, Op.intArith, hn]
    cases md <;> cases kd <;> simp only [iop] at h <;> first | exact ⟨_, h.2, this _ (wrap_I64 _ h.1)⟩ | exact ⟨_, h, this _ rfl⟩
  case mul =>
    obtain rfl := hsh (by decide) (by decide)
    have : ∀ n, kd.wrap (x * y) = n → (binOp .mul t (.int kd x) (.int kd y)).run P w = .ok (.int kd n) w := fun n hn => by simp [binOp, Op.intArith, hn]
    cases md <;> cases kd <;> simp only [iop] at h <;> first | exact ⟨_, h.2, this _ (wrap_I64 _ h.1)⟩ | exact ⟨_, h, this _ rfl⟩
  case quo =>
    obtain rfl := hsh (by decide) (by decide)
    have : ∀ n, y ≠ 0 → kd.wrap (x.tdiv y) = n → (binOp .quo t (.int kd x) (.int kd y)).run P w = .ok (.int kd n) w := fun n h0 hn => by simp [binOp, Op.intDiv, hn, h0]
    cases md with
    | false => simp only [iop] at h; exact ⟨_, h.2, this _ h.1 rfl⟩
    | true =>
      simp only [iop] at h
      obtain ⟨⟨h1, h2, h3, h4⟩, h⟩ := h
      refine ⟨_, h, this _ (by omega) ?_⟩
      rw [Int.tdiv_eq_ediv_of_nonneg h1]
      have h5 : x / y ≤ x := Int.ediv_le_self _ h1
      exact wrap_small kd _ (Int.ediv_nonneg h1 (by omega)) (by omega) (fun hs => by have := h4 hs; omega)
  case rem =>
    obtain rfl := hsh (by decide) (by decide)
    have : ∀ n, y ≠ 0 → x.tmod y = n → (binOp .rem t (.int kd x) (.int kd y)).run P w = .ok (.int kd n) w := fun n h0 hn => by simp [binOp, Op.intDiv, hn, h0]
    cases md with
    | false => simp only [iop] at h; exact ⟨_, h.2, this _ h.1 rfl⟩
    | true =>
      simp only [iop] at h
      exact ⟨_, h.2, this _ (by omega) (Int.tmod_eq_emod_of_nonneg h.1.1)⟩
  case and =>
    obtain rfl := hsh (by decide) (by decide)
    have : ∀ n, kd.wrap ((BitVec.ofInt kd.bits x &&& BitVec.ofInt kd.bits y).toNat) = n → (binOp .and t (.int kd x) (.int kd y)).run P w = .ok (.int kd n) w := fun n hn => by simp only [binOp, Op.intBits, ne_eq, not_true_eq_false, if_false, Sem.run_pure, hn]
    cases md with
    | false => simp only [iop] at h; exact ⟨_, h, this _ rfl⟩
    | true => simp only [iop] at h; exact ⟨_, h.2, this _ (and_sound kd x y h.1)⟩
  case or =>
    obtain rfl := hsh (by decide) (by decide)
    have : ∀ n, kd.wrap ((BitVec.ofInt kd.bits x ||| BitVec.ofInt kd.bits y).toNat) = n → (binOp .or t (.int kd x) (.int kd y)).run P w = .ok (.int kd n) w := fun n hn => by simp only [binOp, Op.intBits, ne_eq, not_true_eq_false, if_false, Sem.run_pure, hn]
    cases md with
    | false => simp only [iop] at h; exact ⟨_, h, this _ rfl⟩
    | true => simp only [iop] at h; exact ⟨_, h.2, this _ (or_sound kd x y h.1)⟩
  case xor =>
    obtain rfl := hsh (by decide) (by decide)
    have : ∀ n, kd.wrap ((BitVec.ofInt kd.bits x ^^^ BitVec.ofInt kd.bits y).toNat) = n → (binOp .xor t (.int kd x) (.int kd y)).run P w = .ok (.int kd n) w := fun n hn => by simp only [binOp, Op.intBits, ne_eq, not_true_eq_false, if_false, Sem.run_pure, hn]
    cases md with
    | false => simp only [iop] at h; exact ⟨_, h, this _ rfl⟩
    | true => simp only [iop] at h; exact ⟨_, h.2, this _ (xor_sound kd x y h.1)⟩
  case andNot =>
    obtain rfl := hsh (by decide) (by decide)
    have : ∀ n, kd.wrap ((BitVec.ofInt kd.bits x &&& ~~~ BitVec.ofInt kd.bits y).toNat) = n → (binOp .andNot t (.int kd x) (.int kd y)).run P w = .ok (.int kd n) w := fun n hn => by simp only [binOp, Op.intBits, ne_eq, not_true_eq_false, if_false, Sem.run_pure, hn]
    cases md with
    | false => simp only [iop] at h; exact ⟨_, h, this _ rfl⟩
    | true => simp only [iop] at h; exact ⟨_, h.2, this _ (andNot_sound kd x y h.1)⟩
  case shl =>
    have : ∀ n, 0 ≤ y → kd.wrap (x * 2 ^ (min y.toNat kd.bits)) = n → (binOp .shl t (.int kd x) (.int kb y)).run P w = .ok (.int kd n) w := fun n h0 hn => by
      simp only [binOp, Op.shift, if_neg (show ¬ y < 0 by omega), Sem.run_pure, hn]
    by_cases hkd : md = true ∧ kd = .i64
    · obtain ⟨rfl, rfl⟩ := hkd
      simp only [iop] at h
      obtain ⟨⟨h1, h2, h3⟩, h⟩ := h
      refine ⟨_, h, this _ h1 ?_⟩
      rw [show min y.toNat IntKind.i64.bits = y.toNat by simp [IntKind.bits]; omega]
      exact wrap_I64 _ h3
    · have hx : iop md .shl kd x y k = (0 ≤ y ∧ k (kd.wrap (x * 2 ^ (min y.toNat kd.bits)))) := by
        cases md <;> cases kd <;> first | rfl | exact absurd ⟨rfl, rfl⟩ hkd
      rw [hx] at h
      exact ⟨_, h.2, this _ h.1 rfl⟩
  case shr =>
    have : ∀ n, 0 ≤ y → x.fdiv (2 ^ (min y.toNat kd.bits)) = n → (binOp .shr t (.int kd x) (.int kb y)).run P w = .ok (.int kd n) w := fun n h0 hn => by
      simp only [binOp, Op.shift, if_neg (show ¬ y < 0 by omega), Sem.run_pure, hn]
    cases md with
    | false => simp only [iop] at h; exact ⟨_, h.2, this _ h.1 rfl⟩
    | true =>
      simp only [iop] at h
      obtain ⟨⟨h1, h2⟩, h⟩ := h
      refine ⟨_, h, this _ h1 ?_⟩
      rw [show min y.toNat kd.bits = y.toNat by omega]
      exact Int.fdiv_eq_ediv_of_nonneg _ (Int.le_of_lt (Int.pow_pos (by decide)))

theorem icmp_sound {op : BinOp} {kd : IntKind} {x y : Int} {k : Bool → Prop} (t : TypeId) (w : World) (h : icmp op x y k) (ho : isArith op = false) :
    ∃ r, k r ∧ (binOp op t (.int kd x) (.int kd y)).run P w = .ok (.bool r) w := by
  cases op <;> simp only [isArith, Bool.true_eq_false] at ho <;> simp only [icmp] at h <;>
    (refine ⟨_, h, ?_⟩; simp only [binOp, Op.intCmp, ne_eq, not_true_eq_false, if_false, Sem.run_pure]) <;>
    first | rfl | (rw [show (x == y) = decide (x = y) from by rw [Bool.eq_iff_iff]; simp]) | (rw [show (x != y) = decide (¬ x = y) from by rw [Bool.eq_iff_iff]; simp])

end Go.AH

/-
  The steps of A3 are what the machine does: the others, and all of them together.
-/
namespace Go.AH
open Go.RowKit

variable {P : Program} {T : Nat → Option TI} {md : Bool} {E : Env} {R : Ren} {s : AS} {a : Act} {w : World} {o : Oper} {k : AV → AS → Prop}

theorem s_nilCheck {x : Operand} (ho : o.op = .nilCheck x) (F : Fit E R s a w) (h : stepA T md s (.nilCheck x) k) : Out P E a w o k := by
  simp only [stepA, AS.on_eq] at h
  obtain ⟨p, hk, hc, hp0⟩ := onC_sound F h
  clear h
  split at hk <;> try exact hk.elim
  · simp only [conC] at hc
    refine Out.mk (u := a.eval x) ?_ hk F hc hp0
    simp [execOp, ho, hc]
  · simp only [conC] at hc
    refine Out.mk (u := a.eval x) ?_ hk F hc hp0
    simp [execOp, ho, hc]

theorem run_eqGuard_c {op : BinOp} {t : TypeId} {x y : Operand} {u v : Value} (hu : u.oneCell' = true) (hi : u ≠ .nilIface) : (eqGuard op t x y u v).run P w = .ok () w := by
  have key : ∀ op, op ≠ .eql → op ≠ .neq → eqGuard op t x y u v = pure () := by intro op h1 h2; cases op <;> first | rfl | contradiction
  have key2 : ∀ op, op = .eql ∨ op = .neq → eqGuard op t x y u v = pure () := by
    intro op ho
    rcases ho with rfl | rfl <;> cases u <;> first | rfl | (exact absurd rfl hi) | (cases hu; done)
  by_cases h : op = .eql ∨ op = .neq
  · rw [key2 op h]; rfl
  · rw [key op (fun e => h (.inl e)) (fun e => h (.inr e))]; rfl

theorem conC.notNilIface {R : Ren} {x : AC} {v : Value} (h : conC R x v) : v ≠ .nilIface := by
  cases x <;> simp only [conC] at h <;> first | (obtain ⟨a, c, rfl⟩ := h.slice; simp; done) | (obtain ⟨b, o, c, rfl, _⟩ := h; simp; done) | (subst h; simp) | (rcases h with ⟨a, c, rfl, _⟩ | ⟨_, rfl⟩ <;> exact Value.noConfusion) | (obtain ⟨a, c, rfl, _⟩ := h; simp) | (obtain ⟨rfl, _⟩ := h; simp)

theorem s_binOp (hT : TOk P T) {op : BinOp} {t ty : Nat} {x y : Operand} (ho : o.op = .binOp op t x y ty) (F : Fit E R s a w) (h : stepA T md s (.binOp op t x y ty) k) : Out P E a w o k := by
  simp only [stepA, AS.on_eq] at h
  obtain ⟨va, hA, hca, hla⟩ := onV_sound F h
  clear h
  obtain ⟨vb, h, hcb, hlb⟩ := onV_sound F hA
  clear hA
  have hr : ∀ u, (eqGuard op t x y (a.eval x) (a.eval y)).run P w = .ok () w → (binOp op t (a.eval x) (a.eval y)).run P w = .ok u w → (execOp a.eval o).run P w = .ok (.value u) w := by
    intro u h1 h2; simp [execOp, ho, h1, h2]
  have hg : ∀ {xa xb : AC}, conC R xa (a.eval x) → conC R xb (a.eval y) → (eqGuard op t x y (a.eval x) (a.eval y)).run P w = .ok () w :=
    fun h1 _ => run_eqGuard_c h1.one h1.notNilIface
  unfold bin at h
  split at h
  · -- numbers
    rename_i ka xa kb xb
    simp only [conV] at hca hcb
    have g := hg hca hcb
    simp only [conC] at hca hcb
    rw [hca, hcb] at g
    split at h
    · rename_i har
      obtain ⟨h1, h2⟩ := lit_iff.1 h
      obtain ⟨n, hn, hrun⟩ := iop_sound t w h2 har (by simpa using h1)
      exact Out.mk (hr _ (by rw [hca, hcb]; exact g) (by rw [hca, hcb]; exact hrun)) hn F rfl trivial
    · rename_i har
      obtain ⟨h1, h2⟩ := lit_iff.1 h
      obtain rfl : ka = kb := by simpa using h1
      obtain ⟨r, hn, hrun⟩ := icmp_sound (P := P) (kd := ka) t w h2 (by simpa using har)
      exact Out.mk (hr _ (by rw [hca, hcb]; exact g) (by rw [hca, hcb]; exact hrun)) hn F rfl trivial
  · -- truth values
    rename_i xa xb
    simp only [conV] at hca hcb
    have g := hg hca hcb
    simp only [conC] at hca hcb
    rw [hca, hcb] at g
    obtain ⟨h1, h2⟩ := lit_iff.1 h
    have hu : P.underlying t = some .bool := by
      split at h1
      · rename_i hq; exact (hT _ _ hq).d
      · cases h1
    have he : (Op.equal t (.bool xa) (.bool xb)).run P w = .ok (xa == xb) w := run_equalIn_bool' w _ t xa xb hu
    split at h2
    · exact Out.mk (hr _ (by rw [hca, hcb]; exact g) (by rw [hca, hcb]; simp [binOp, he])) h2 F rfl trivial
    · exact Out.mk (hr _ (by rw [hca, hcb]; exact g) (by rw [hca, hcb]; simp [binOp, he]; cases xa <;> cases xb <;> rfl)) h2 F rfl trivial
    · exact h2.elim
  · -- strings
    rename_i xa xb
    simp only [conV] at hca hcb
    have g := hg hca hcb
    simp only [conC] at hca hcb
    rw [hca, hcb] at g
    split at h
    · refine Out.mk (hr (.string (xa ++ xb)) (by rw [hca, hcb]; exact g) ?_) h.2 F rfl trivial
      rw [hca, hcb]
      have hle := h.1
      simp only [binOp, Op.stringOp]
      rw [if_neg]
      · rfl
      · simp only [show IntKind.i64.max = 9223372036854775807 from by decide]; omega
    · exact Out.mk (hr _ (by rw [hca, hcb]; exact g) (by rw [hca, hcb]; simp [binOp, Op.stringOp])) h F rfl trivial
    · exact Out.mk (hr _ (by rw [hca, hcb]; exact g) (by rw [hca, hcb]; simp [binOp, Op.stringOp])) h F rfl trivial
    · exact h.elim
  · -- structs and arrays
    rename_i xs ys
    obtain ⟨vs, hva, h1, h2⟩ := hca
    obtain ⟨us, hvb, h3, h4⟩ := hcb
    obtain ⟨hc, h⟩ := h
    split at hc
    · rename_i i d z' b' z hq
      obtain ⟨hx, hy⟩ := hc
      have eL := (hT _ _ hq).eq rfl
      have e1 := eL.guard
      split at h
      · rename_i r hrr
        have he := eL.run (w := w) hrr hx hy h1 h3 h2 h4
        have g : (eqGuard op t x y (a.eval x) (a.eval y)).run P w = .ok () w := by
          rw [hva, hvb]
          cases op <;> first | rfl | simp [eqGuard, e1]
        split at h
        · exact Out.mk (hr _ g (by rw [hva, hvb]; simp [binOp, he])) h F rfl trivial
        · exact Out.mk (hr _ g (by rw [hva, hvb]; simp [binOp, he])) h F rfl trivial
        · exact h.elim
      · exact h.elim
    · exact hc.elim
  · -- a slice and nil
    rename_i xa
    simp only [conV] at hca hcb
    have g := hg hca hcb
    have hy : a.eval y = .slice none 0 0 := hcb
    split at h
    · rename_i e z' b' z c' hq
      have hu : P.underlying t = some (.slice e) := (hT _ _ hq).d
      have key : ∀ (r : Bool) (ad : Option Addr) (n c : Nat), a.eval x = .slice ad n c → ad.isNone = r → eqNil op r (fun r => k r s) → Out P E a w o k := fun r ad n c hx hr2 hk => by
        have he : (Op.equal t (.slice ad n c) (.slice none 0 0)).run P w = .ok r w := by
          have := Lib.run_equalIn_slice_nil w 9999 t e ad n c 0 0 hu
          rw [hr2] at this
          exact this
        unfold eqNil at hk
        split at hk
        · exact Out.mk (hr _ g (by rw [hx, hy]; simp [binOp, he])) hk F rfl trivial
        · exact Out.mk (hr _ g (by rw [hx, hy]; simp [binOp, he])) hk F rfl trivial
        · exact hk.elim
      unfold nilIs at h
      split at h
      · exact key true none 0 0 hca rfl h
      · obtain ⟨ad, c, h1, _⟩ := hca
        exact key false (some ad) _ c h1 rfl h
      · exact key false _ _ _ hca.1 rfl h
      · exact key false _ _ _ hca.1 rfl h
      · obtain ⟨h0, h⟩ := h
        rcases hca with ⟨ad, c, h1, _⟩ | ⟨h1, _⟩
        · exact key false (some ad) _ c h1 rfl h
        · omega
      · obtain ⟨h0, h⟩ := h
        obtain ⟨b, o, cp, h1, _⟩ := KR.blk F.hp.zw hca h0
        exact key false _ _ _ h1 rfl h
      · exact h.elim
    · exact h.elim
  · exact h.elim

theorem s_unOp {op : UnOp} {t : Nat} {x : Operand} (ho : o.op = .unOp op t x) (F : Fit E R s a w) (h : stepA T md s (.unOp op t x) k) : Out P E a w o k := by
  simp only [stepA, AS.on_eq] at h
  obtain ⟨p, hk, hc, hp0⟩ := onC_sound F h
  clear h
  split at hk <;> try exact hk.elim
  · simp only [conC] at hc
    exact Out.mk (u := .bool _) (by simp [execOp, ho, hc, Op.unary]) hk F rfl trivial
  · rename_i kd n
    simp only [conC] at hc
    obtain ⟨m, hm, hr⟩ := iop_sound (P := P) (kb := kd) 0 w hk rfl (.inr (.inr rfl))
    refine Out.mk (u := .int kd m) ?_ hm F rfl trivial
    have : (binOp .sub 0 (.int kd 0) (.int kd n)) = Op.intArith .sub kd 0 n := by simp [binOp]
    rw [this] at hr
    simp [execOp, ho, hc, Op.unary, hr]

theorem bytesA_sound : ∀ {cs : List AC} {k : List UInt8 → Prop}, bytesA cs k → ∃ l, k l ∧ l.length = cs.length ∧ ∀ j (hj : j < l.length), cs[j]? = some (.int .u8 (l[j].toNat : Int))
  | [], k, h => ⟨[], h, rfl, fun j hj => by simp at hj⟩
  | x :: r, k, h => by
    unfold bytesA at h
    split at h
    · rename_i he; cases he
    · rename_i n r' he
      injection he with e1 e2
      subst e1; subst e2
      obtain ⟨⟨h0, h1⟩, h2⟩ := h
      obtain ⟨l, g1, g2, g3⟩ := bytesA_sound h2
      refine ⟨_, g1, by simp [g2], fun j hj => ?_⟩
      cases j with
      | zero =>
        simp only [List.getElem?_cons_zero, List.getElem_cons_zero, UInt8.toNat_ofNat']
        congr 2
        omega
      | succ j =>
        simp only [List.getElem?_cons_succ, List.getElem_cons_succ]
        exact g3 j (by simpa using hj)
    · exact h.elim
theorem s_convert (hT : TOk P T) {src dst : Nat} {x : Operand} (ho : o.op = .convert src dst x) (F : Fit E R s a w) (h : stepA T md s (.convert src dst x) k) : Out P E a w o k := by
  simp only [stepA, AS.on_eq] at h
  obtain ⟨p, hk, hc, hp0⟩ := onC_sound F h
  clear h
  split at hk <;> try exact hk.elim
  · rename_i is kd z b zz cc ki n hs hq
    simp only [conC] at hc
    obtain ⟨d, hd⟩ : ∃ d, P.underlying src = some d := by
      have := (hT _ _ hs).d
      cases hz : is.d <;> rw [hz] at this <;> simp only [TD.fits] at this
      case ptr => obtain ⟨_, h⟩ := this; exact ⟨_, h⟩
      case struct => obtain ⟨_, h, _⟩ := this; exact ⟨_, h⟩
      case func => obtain ⟨_, _, _, h⟩ := this; exact ⟨_, h⟩
      all_goals exact ⟨_, this⟩
    refine Out.mk (u := .int kd (kd.wrap n)) ?_ hk F rfl trivial
    have h2 : P.underlying dst = some (.int kd) := (hT _ _ hq).d
    simp [execOp, ho, hc, convert, run_underlying hd, run_underlying h2, Conv.intToInt]
  · rename_i hs hq
    split at hk <;> try exact hk.elim
    rename_i he
    obtain ⟨b', cs, ⟨h1, hk3⟩, hid, hb, hB, hbl⟩ := onCells_sound F hk
    obtain ⟨l, hk4, hll, hlc⟩ := bytesA_sound hk3
    rename_i off len _ _ _ _ _ _
    obtain ⟨vs, f1, _, f2, f3, f4⟩ := run_cells (P := P) hB hb off len h1
    obtain ⟨ad, cp, hv, _, had, _⟩ := hc
    have hlen : l.length = len := by rw [hll]; simp; omega
    have hu1 := (hT _ _ hs).d
    have hu2 := (hT _ _ hq).d
    have hu3 := (hT _ _ he).d
    have hr := run_convert_bytes_back (P := P) w src dst _ ad cp l hu1 hu3 hu2 (fun j hj => by
      rw [had (by omega)]
      refine f2 j _ ?_
      obtain ⟨u, hu, hcu⟩ := f3 j _ (hlc j hj)
      simp only [Nat.zero_add, List.getElem?_toArray] at hu
      simp only [conC] at hcu
      subst hcu
      exact hu)
    rw [hlen] at hr
    refine Out.mk (u := .string ⟨l.toArray⟩) ?_ hk4 F rfl trivial
    simp [execOp, ho, hv, hr]
  · rename_i hs hq
    split at hk <;> try exact hk.elim
    rename_i he hm
    obtain ⟨h1, hk3⟩ := hk
    have hB := F.hp.blk _ _ hm
    obtain ⟨l, hk4, hll, hlc⟩ := bytesA_sound hk3
    rename_i rid len _ _ _ _ _ _ _ _ cs
    obtain ⟨vs, f1, _, f2, f3, f4⟩ := run_cells (P := P) hB rfl 0 len (by omega)
    obtain ⟨hv, _⟩ := hc
    obtain ⟨_, _, hd0, _⟩ := hB
    simp only [Ren.adr, hd0, Nat.add_zero] at f2
    have hlen : l.length = len := by rw [hll]; simp; omega
    have hu1 := (hT _ _ hs).d
    have hu2 := (hT _ _ hq).d
    have hu3 := (hT _ _ he).d
    have hr := run_convert_bytes_back (P := P) w src dst _ ⟨R.ρ rid, 0, none⟩ (R.κ rid) l hu1 hu3 hu2 (fun j hj => by
      refine f2 j _ ?_
      obtain ⟨u, hu, hcu⟩ := f3 j _ (by rw [List.drop_zero]; exact hlc j hj)
      simp only [Nat.zero_add, List.getElem?_toArray] at hu
      simp only [conC] at hcu
      subst hcu
      exact hu)
    rw [hlen] at hr
    refine Out.mk (u := .string ⟨l.toArray⟩) ?_ hk4 F rfl trivial
    simp [execOp, ho, hv, hr]
  · rename_i hs hq
    split at hk <;> try exact hk.elim
    rename_i he
    simp only [conC] at hc
    have hu1 := (hT _ _ hs).d
    have hu2 := (hT _ _ hq).d
    have hu3 := (hT _ _ he).d
    refine Out.mk (u := .string ⟨#[]⟩) ?_ hk F rfl trivial
    simp [execOp, ho, hc, convert, run_underlying hu1, run_underlying hu2, run_underlying hu3, Conv.bytesToString]; rfl

theorem fnOps_sound : ∀ (l : List Operand) {k : List Nat → Prop} (F : Fit E R s a w), stepA.fnOps s l k → ∃ ids, k ids ∧ l.map a.eval = ids.map R.p0 ∧ ∀ i ∈ ids, idOk s.nx i
  | [], k, F, h => ⟨[], h, rfl, by simp⟩
  | x :: r, k, F, h => by
    simp only [stepA.fnOps] at h
    obtain ⟨p, hk, hc, hp0⟩ := onC_sound F h
    split at hk <;> try exact hk.elim
    rename_i id
    obtain ⟨ids, h1, h2, h3⟩ := fnOps_sound r F hk
    simp only [conC] at hc
    exact ⟨id :: ids, h1, by simp [hc, h2, Ren.p0], by intro i hi; rcases List.mem_cons.1 hi with e | e; exact e ▸ hp0; exact h3 i e⟩

theorem s_makeFunc {f : FuncId} {fs cs : Array Operand} (ho : o.op = .makeFunc (.func f) fs cs) (F : Fit E R s a w) (h : stepA T md s (.makeFunc (.func f) fs cs) k) : Out P E a w o k := by
  simp only [stepA, AS.on_eq] at h
  obtain ⟨l1, h, e1, i1⟩ := fnOps_sound _ F h
  obtain ⟨l2, h, e2, i2⟩ := fnOps_sound _ F h
  refine Out.mk (u := .func (.func f) (l1.map R.p0).toArray (l2.map R.p0).toArray) ?_ h F rfl ⟨i1, i2⟩
  have h1 : fs.map a.eval = (l1.map R.p0).toArray := by rw [← e1, ← Array.toList_map, Array.toArray_toList]
  have h2 : cs.map a.eval = (l2.map R.p0).toArray := by rw [← e2, ← Array.toList_map, Array.toArray_toList]
  simp [execOp, ho, Instr.makeFunc, h1, h2]

theorem szOf_sound (hT : TOk P T) {t z : Nat} (h : szOf T t = some z) (w : World) : (sizeOf t).run P w = .ok z w := by
  rw [szOf_eq] at h
  cases hq : T t with
  | none => simp [hq] at h
  | some i => simp [hq] at h; subst h; exact (hT _ _ hq).size w

theorem s_fieldAddr (hT : TOk P T) {t f : Nat} {x : Operand} (ho : o.op = .fieldAddr t x f) (F : Fit E R s a w) (h : stepA T md s (.fieldAddr t x f) k) : Out P E a w o k := by
  simp only [stepA, AS.on_eq] at h
  obtain ⟨p, hk, hc, hp0⟩ := onC_sound F h
  clear h
  split at hk <;> try exact hk.elim
  rename_i id off fs z b zz cc hq
  obtain ⟨fields, hu, hfs, hfi⟩ := (hT _ _ hq).d
  split at hk <;> try exact hk.elim
  rename_i fo ft hf
  obtain ⟨hz, hk'⟩ := lit_iff.1 hk
  clear hk
  have hk := hk'
  clear hk'
  obtain ⟨sz, hsz⟩ : ∃ sz, szOf T ft = some (sz + 1) := by
    cases hq : szOf T ft with
    | none => rw [hq] at hz; cases hz
    | some sz => cases sz with
      | zero => rw [hq] at hz; cases hz
      | succ sz => exact ⟨sz, rfl⟩
  simp only [conC] at hc
  obtain ⟨fl, h1, h2⟩ : ∃ fl, fields[f]? = some fl ∧ (fl.offset, fl.type) = (fo, ft) := by
    rw [← hfs, List.getElem?_map] at hf
    cases hq : fields.toList[f]? with
    | none => simp [hq] at hf
    | some fl => simp [hq] at hf; exact ⟨fl, by simpa using hq, by simp [hf]⟩
  obtain ⟨rfl, rfl⟩ : fl.offset = fo ∧ fl.type = ft := by simpa using h2
  refine Out.mk (u := .pointer (some (R.adr id (off + fl.offset)))) ?_ hk F rfl hp0
  simp [execOp, ho, hc, Instr.fieldAt, run_underlying hu, h1, Instr.sureAddr, fieldPlace, szOf_sound hT hsz, adr_add]

theorem s_indexAddr (hT : TOk P T) {t : Nat} {x y : Operand} (ho : o.op = .indexAddr t x y) (F : Fit E R s a w) (h : stepA T md s (.indexAddr t x y) k) : Out P E a w o k := by
  simp only [stepA, AS.on_eq] at h
  obtain ⟨p, hA, hc, hp0⟩ := onC_sound F h
  clear h
  obtain ⟨q, hk, hd, hq0⟩ := onC_sound F hA
  clear hA
  split at hk <;> try exact hk.elim
  · rename_i id off kd i n e z b zz cc hq
    have hu : P.underlying t = some (.array n e) := (hT _ _ hq).d
    split at hk <;> try exact hk.elim
    rename_i sz hsz
    obtain ⟨hb, hk⟩ := hk
    simp only [conC] at hc hd
    refine Out.mk (u := .pointer (some (R.adr id (off + i.toNat * sz)))) ?_ hk F rfl hp0
    simp [execOp, ho, hc, hd, Instr.indexAt, asIntOf, run_underlying hu, Instr.sureAddr, hb.1, hb.2, szOf_sound hT hsz, adr_add]
  · rename_i id off len cap kd i e z b zz cc hq
    have hu : P.underlying t = some (.slice e) := (hT _ _ hq).d
    split at hk <;> try exact hk.elim
    rename_i sz hsz
    obtain ⟨hb, hk⟩ := hk
    simp only [conC] at hc hd
    obtain ⟨ad, cp, hc, _, hc2, _⟩ := hc
    obtain rfl := hc2 (by omega)
    refine Out.mk (u := .pointer (some (R.adr id (off + i.toNat * sz)))) ?_ hk F rfl hp0
    simp [execOp, ho, hc, hd, Instr.indexAt, asIntOf, run_underlying hu, hb.1, hb.2, szOf_sound hT hsz, adr_add]
  · rename_i id len kd i e z b zz cc hq
    have hu : P.underlying t = some (.slice e) := (hT _ _ hq).d
    split at hk <;> try exact hk.elim
    rename_i e' z' cs sz hl hsz
    obtain ⟨hb, hk⟩ := hk
    simp only [conC] at hc hd
    have hB := F.hp.blk _ _ hl
    obtain ⟨c, _, hd0, _⟩ := hB
    refine Out.mk (u := .pointer (some (R.adr id (i.toNat * sz)))) ?_ hk F rfl hp0
    have : (⟨R.ρ id, 0, none⟩ : Addr) = R.adr id 0 := by simp [Ren.adr, hd0]
    simp [execOp, ho, hc, hd, Instr.indexAt, asIntOf, run_underlying hu, hb.1, hb.2, szOf_sound hT hsz, this, adr_add]
  · rename_i id off len kd i e z b zz cc hq
    have hu : P.underlying t = some (.slice e) := (hT _ _ hq).d
    split at hk <;> try exact hk.elim
    rename_i sz hsz
    obtain ⟨hb, hk⟩ := hk
    simp only [conC] at hc hd
    rcases hc with ⟨ad, cp, hc, hc2, _⟩ | ⟨h0, _⟩
    · obtain rfl := hc2 (by omega)
      refine Out.mk (u := .pointer (some (R.adr id (off + i.toNat * sz)))) ?_ hk F rfl hp0
      simp [execOp, ho, hc, hd, Instr.indexAt, asIntOf, run_underlying hu, hb.1, hb.2, szOf_sound hT hsz, adr_add]
    · omega
  · rename_i q kd i e z b zz cc hq
    have hu : P.underlying t = some (.slice e) := (hT _ _ hq).d
    split at hk <;> try exact hk.elim
    rename_i sz hsz
    obtain ⟨hb, hk⟩ := hk
    simp only [conC] at hd
    obtain ⟨b0, o0, cp, hc1, hc2⟩ := KR.ptr (show KR R.z q _ from hc) (by omega)
    refine Out.mk (u := .pointer (some ⟨b0, o0 + i.toNat * sz, none⟩)) ?_ hk F (hc2 _) trivial
    simp [execOp, ho, hc1, hd, Instr.indexAt, asIntOf, run_underlying hu, hb.2.1, hb.2.2, szOf_sound hT hsz, Addr.add_lit]

theorem s_extract {x : Operand} {i : Nat} (ho : o.op = .extract x i) (F : Fit E R s a w) (h : stepA T md s (.extract x i) k) : Out P E a w o k := by
  simp only [stepA, AS.on_eq] at h
  obtain ⟨p, hk, hc, hp0⟩ := onV_sound F h
  clear h
  split at hk <;> try exact hk.elim
  rename_i es
  split at hk <;> try exact hk.elim
  rename_i e he
  obtain ⟨vs, hv, h1, h2⟩ := hc
  obtain ⟨u, hu, hcu⟩ := h2 i e he
  refine Out.mk (u := u) ?_ hk F ((conV_v R e u).2 hcu) ?_
  · simp [execOp, ho, hv, Instr.extract, hu]
  · have := hp0 e (List.mem_of_getElem? he)
    cases e <;> exact this

theorem s_field (hT : TOk P T) {t f : Nat} {x : Operand} (ho : o.op = .field t x f) (F : Fit E R s a w) (h : stepA T md s (.field t x f) k) : Out P E a w o k := by
  simp only [stepA, AS.on_eq] at h
  obtain ⟨p, hk, hc, hp0⟩ := onV_sound F h
  clear h
  split at hk <;> try exact hk.elim
  rename_i cs fs z b zz cc hq
  obtain ⟨fields, hu, hfs, hfi⟩ := (hT _ _ hq).d
  split at hk <;> try exact hk.elim
  rename_i fo ft hf
  obtain ⟨fl, h1, h2⟩ : ∃ fl, fields[f]? = some fl ∧ (fl.offset, fl.type) = (fo, ft) := by
    rw [← hfs, List.getElem?_map] at hf
    cases hq : fields.toList[f]? with
    | none => simp [hq] at hf
    | some fl => simp [hq] at hf; exact ⟨fl, by simpa using hq, by simp [hf]⟩
  obtain ⟨rfl, rfl⟩ : fl.offset = fo ∧ fl.type = ft := by simpa using h2
  split at hk <;> try exact hk.elim
  rename_i i hi
  have hI := hT _ _ hi
  obtain ⟨vs, hv, hs, hcl⟩ := hc
  split at hk
  · rename_i hag
    split at hk <;> try exact hk.elim
    rename_i z hz
    obtain ⟨v, hv1, hv2⟩ := hcl fl.offset _ (List.getElem?_eq_getElem (by omega))
    rw [Nat.zero_add] at hv1
    refine Out.mk (u := v) ?_ hk.2 F ?_ (LL.getD hp0 _ z hk.1)
    · simp [execOp, ho, hv, Instr.field, run_underlying hu, h1, part, asAgg, hI.aggR, hag, hv1]
    · simpa [conV, List.getD, List.getElem?_eq_getElem (show fl.offset < cs.length by omega)] using hv2
  · rename_i hag
    refine Out.mk (u := .agg (vs.extract fl.offset (fl.offset + i.size))) ?_ hk.2 F ⟨_, rfl, ?_, ?_⟩ ((LL.drop hp0 _).take _)
    · simp [execOp, ho, hv, Instr.field, run_underlying hu, h1, part, asAgg, hI.aggR, hag, hI.size]
    · have := hk.1; simp; omega
    · intro j y hj
      simp only [List.getElem?_take, List.getElem?_drop] at hj
      split at hj
      · rename_i hjn
        obtain ⟨v, hv1, hv2⟩ := hcl _ y hj
        refine ⟨v, ?_, hv2⟩
        rw [Nat.zero_add] at hv1 ⊢
        rw [Array.getElem?_extract]
        have := (Array.getElem?_eq_some_iff.1 hv1).1
        rw [if_pos (by omega)]; exact hv1
      · cases hj

theorem s_index (hT : TOk P T) {t : Nat} {x y : Operand} (ho : o.op = .index t x y) (F : Fit E R s a w) (h : stepA T md s (.index t x y) k) : Out P E a w o k := by
  simp only [stepA, AS.on_eq] at h
  obtain ⟨p, hA, hc, hp0⟩ := onV_sound F h
  clear h
  obtain ⟨q, hk, hd, hq0⟩ := onC_sound F hA
  clear hA
  split at hk <;> try exact hk.elim
  · rename_i cs kd i n e z b zz cc hq
    have hu : P.underlying t = some (.array n e) := (hT _ _ hq).d
    split at hk <;> try exact hk.elim
    rename_i ed b' z' cmp hi
    have hI := hT _ _ hi
    obtain ⟨⟨hag, h1, h2, h3⟩, hk⟩ := hk
    obtain ⟨vs, hv, hs, hcl⟩ := hc
    simp only [conC] at hd
    obtain ⟨v, hv1, hv2⟩ := hcl i.toNat _ (List.getElem?_eq_getElem h3)
    rw [Nat.zero_add] at hv1
    have hag' : TI.agg ⟨ed, 1, b', [z'], cmp⟩ = false := hag
    refine Out.mk (u := v) ?_ hk F ?_ (LL.getD hp0 _ _ h3)
    · have hsz := hI.size w
      have har := hI.aggR w
      rw [hag'] at har
      simp [execOp, ho, hv, hd, Instr.index, asIntOf, run_underlying hu, h1, h2, hsz, part, har, hv1]
    · simpa [conV, List.getD, List.getElem?_eq_getElem h3] using hv2
  · rename_i bs kd i z b zz cc hq
    have hu : P.underlying t = some .string := (hT _ _ hq).d
    obtain ⟨⟨h1, h2⟩, hk⟩ := hk
    simp only [conC, conV] at hc hd
    refine Out.mk (u := .int .u8 ((bs.data.toList.getD i.toNat 0).toNat : Int)) ?_ hk F rfl trivial
    have hlt : i.toNat < bs.size := by omega
    have : bs[i.toNat]? = some (bs.data.toList.getD i.toNat 0) := by
      have hlt' : i.toNat < bs.data.toList.length := by simpa using hlt
      simp only [List.getD, List.getElem?_eq_getElem hlt', Option.getD_some]
      rw [getElem?_pos bs i.toNat hlt]; rfl
    simp [execOp, ho, hc, hd, Instr.index, asIntOf, run_underlying hu, h1, this]

theorem s_makeMap {t : Nat} (ho : o.op = .makeMap t none) (F : Fit E R s a w) (h : stepA T md s (.makeMap t none) k) : Out P E a w o k := by
  simp only [stepA, AS.on_eq] at h
  obtain ⟨hG, hk⟩ := lit_iff.1 h
  rw [decide_eq_true_eq] at hG
  have hag := Ren.set_agree R s.nx w.heap.size 0 0 hG
  have hf : lk s.hp s.nx = none := by
    cases hq : lk s.hp s.nx with
    | none => rfl
    | some b => have := F.nx _ _ hq; omega
  have F1 := (F.keep0 (w.grownBy_alloc (.map #[] 0) none)).ren hag (Ren.set_ok _ _ _ _ hG F.ok) (Nat.le_succ s.nx) (show s.nx + 1 ≤ GB by omega)
  have F2 : Fit E (R.set s.nx w.heap.size 0 0) { s with hp := (s.nx, .mp []) :: s.hp, nx := s.nx + 1 } a (w.alloc (.map #[] 0)) := by
    refine F1.add hf ?_ (fun _ => .inr ?_) ?_ (.inl (Nat.lt_succ_self _)) (by intro p hp; cases hp) (fun _ => by rw [Ren.set_ρ]; exact F.hp.zw.lt (Nat.le_refl _))
    · refine ⟨#[], 0, ?_, rfl, by simp⟩
      rw [Ren.set_ρ]; exact World.alloc_heap_new w _
    · rw [Ren.set_ρ]; exact F.fr.size
    · intro j c hj _
      rw [Ren.set_ρ, (hag j (F.wf.hp j c hj).1).1]
      exact fun e => absurd (F.hp.blk j c hj).lt (by omega)
  refine ⟨.value (.map (some w.heap.size)), w.alloc (.map #[] 0), _, _, _, _, ?_, .inl rfl, hk, F2, ?_, .inl (Nat.lt_succ_self _)⟩
  · simp [execOp, ho, Instr.makeMap]
  · simp [conV, conC, Ren.set]

def OptI (a : Act) (x : Option Operand) (n : Option Int) : Prop := match x, n with | none, none => True | some x, some n => ∃ kd, a.eval x = .int kd n | _, _ => False

theorem onO_sound {x : Option Operand} {k : Option Int → Prop} (F : Fit E R s a w) (h : stepA.onO s x k) : ∃ n : Option Int, k n ∧ OptI a x n := by
  cases x with
  | none => exact ⟨none, h, trivial⟩
  | some x =>
    simp only [stepA.onO] at h
    obtain ⟨p, hk, hc, hp0⟩ := onC_sound F h
    clear h
    split at hk <;> try exact hk.elim
    rename_i kd n
    exact ⟨some n, hk, kd, hc⟩

theorem run_bounds {lo hi : Option Operand} {l h : Option Int} {isS : Bool} {len cap : Nat} (hl : OptI a lo l)
    (hh : OptI a hi h) (h0 : 0 ≤ l.getD 0) (h1 : l.getD 0 ≤ h.getD len) (h2 : h.getD len ≤ cap) :
    (Instr.sliceBounds isS len cap (lo.map a.eval) (hi.map a.eval) none).run P w = .ok ((l.getD 0).toNat, (h.getD len).toNat, cap) w := by
  cases hi with
  | none => cases h with
    | some n => exact hh.elim
    | none => cases lo with
      | none => cases l with
        | none => simp [Instr.sliceBounds]
        | some n => exact hl.elim
      | some x => cases l with
        | none => exact hl.elim
        | some n =>
          obtain ⟨kd, e⟩ := hl
          simp only [Option.getD_some, Option.getD_none] at h0 h1 h2
          simp [Instr.sliceBounds, Instr.sliceBound, e, asIntOf, h0, h1]
  | some y => cases h with
    | none => exact hh.elim
    | some m =>
      obtain ⟨kd2, e2⟩ := hh
      simp only [Option.getD_some] at h1 h2
      have hm : 0 ≤ m := by omega
      cases lo with
      | none => cases l with
        | none => simp [Instr.sliceBounds, Instr.sliceBound, e2, asIntOf, hm, h2]
        | some n => exact hl.elim
      | some x => cases l with
        | none => exact hl.elim
        | some n =>
          obtain ⟨kd, e⟩ := hl
          simp only [Option.getD_some] at h0 h1
          simp [Instr.sliceBounds, Instr.sliceBound, e, e2, asIntOf, h0, h2, hm, show ¬ (max m 0 < n) by omega]

theorem subS_sound {off len z : Nat} {cap : Option Nat} {l h : Option Int} {k : Nat → Nat → Option Nat → Prop} (hs : stepA.subS off len cap z l h k) {cp : Nat} (hlen : len ≤ cp) (hcap : ∀ c, cap = some c → cp = c) :
    0 ≤ l.getD 0 ∧ l.getD 0 ≤ h.getD len ∧ h.getD len ≤ cp ∧ (h.getD len ≤ len ∨ 0 < len) ∧ k (off + (l.getD 0).toNat * z) ((h.getD len).toNat - (l.getD 0).toNat) (cap.map (· - (l.getD 0).toNat)) := by
  obtain ⟨⟨h1, h2, h3⟩, hk⟩ := hs
  refine ⟨h1, h2, ?_, ?_, hk⟩
  · rcases h3 with h3 | ⟨c, hc, h3, _⟩
    · omega
    · rw [hcap c hc]; exact h3
  · rcases h3 with h3 | ⟨c, hc, h3, h4⟩
    · exact .inl h3
    · exact .inr h4

theorem con_sub {R : Ren} {id off l h cp z : Nat} {cap : Option Nat} (ad : Option Addr) (had : 0 < h - l → ad = some (R.adr id (off + l * z))) (hsome : ∃ x, ad = some x) (hcap : ∀ c, cap = some c → cp = c) (hh : h ≤ cp) :
    conC R (.sl id (off + l * z) (h - l) (cap.map (· - l))) (.slice ad (h - l) (cp - l)) := by
  obtain ⟨x, rfl⟩ := hsome
  refine ⟨x, cp - l, rfl, ?_, fun hp => ?_, by omega⟩
  · intro c hc
    cases cap with
    | none => cases hc
    | some c0 => simp at hc; rw [hcap c0 rfl, hc]
  · have := had hp; injection this

theorem s_slice (hT : TOk P T) {t : Nat} {x : Operand} {lo hi : Option Operand} (ho : o.op = .slice t x lo hi none) (F : Fit E R s a w) (h : stepA T md s (.slice t x lo hi none) k) : Out P E a w o k := by
  simp only [stepA, AS.on_eq] at h
  obtain ⟨p, hA, hc, hp0⟩ := onC_sound F h
  clear h
  obtain ⟨l, hB, hl⟩ := onO_sound F hA
  clear hA
  obtain ⟨g, hk, hg⟩ := onO_sound F hB
  clear hB
  split at hk <;> try exact hk.elim
  · rename_i id off len cap e z b zz cc hq
    have hu : P.underlying t = some (.slice e) := (hT _ _ hq).d
    split at hk <;> try exact hk.elim
    rename_i sz hsz
    obtain ⟨ad, cp, hcv, hcap, had, hlc⟩ := hc
    obtain ⟨h1, h2, h3, h4, hk⟩ := subS_sound hk hlc hcap
    refine Out.mk (u := .slice (some (if cp = (l.getD 0).toNat then ad else ad.add ((l.getD 0).toNat * sz))) ((g.getD len).toNat - (l.getD 0).toNat) (cp - (l.getD 0).toNat)) ?_ hk F ?_ hp0
    · have hb := run_bounds (P := P) (w := w) (isS := true) hl hg h1 h2 h3
      simp [execOp, ho, hcv, Instr.sliceAt, Instr.slice, run_underlying hu, hb, szOf_sound hT hsz]
      split <;> rfl
    · refine con_sub _ ?_ ⟨_, rfl⟩ hcap (by omega)
      intro hp
      have e1 : ¬ cp = (l.getD 0).toNat := by omega
      have e2 : 0 < len := by omega
      rw [if_neg e1, had e2, adr_add]
  · rename_i e z b zz cc hq
    have hu : P.underlying t = some (.slice e) := (hT _ _ hq).d
    split at hk <;> try exact hk.elim
    rename_i sz hsz
    obtain ⟨⟨h1, h2⟩, hk⟩ := hk
    simp only [conC] at hc
    refine Out.mk (u := .slice none 0 0) ?_ hk F rfl trivial
    have hb := run_bounds (P := P) (w := w) (isS := true) (len := 0) (cap := 0) hl hg (by omega) (by rw [h1]; simpa using Int.le_of_eq h2.symm) (by simpa using Int.le_of_eq h2)
    have e1 : (l.getD 0).toNat = 0 := by omega
    have e2 : (g.getD ((0 : Nat) : Int)).toNat = 0 := by
      have : g.getD ((0 : Nat) : Int) = 0 := by simpa using h2
      omega
    rw [e1, e2] at hb
    simp [execOp, ho, hc, Instr.sliceAt, Instr.slice, run_underlying hu, hb, szOf_sound hT hsz]
  · rename_i id len e z b zz cc hq
    have hu : P.underlying t = some (.slice e) := (hT _ _ hq).d
    split at hk <;> try exact hk.elim
    rename_i e' z' cs sz hlk hsz
    obtain ⟨hcv, hlc⟩ := hc
    obtain ⟨c, _, hd0, _⟩ := F.hp.blk _ _ hlk
    have ha0 : (⟨R.ρ id, 0, none⟩ : Addr) = R.adr id 0 := by simp [Ren.adr, hd0]
    obtain ⟨h1, h2, h3, h4, hk⟩ := subS_sound hk hlc (by simp)
    refine Out.mk (u := .slice (some (if R.κ id = (l.getD 0).toNat then R.adr id 0 else (R.adr id 0).add ((l.getD 0).toNat * sz))) ((g.getD len).toNat - (l.getD 0).toNat) (R.κ id - (l.getD 0).toNat)) ?_ hk F ?_ hp0
    · have hb := run_bounds (P := P) (w := w) (isS := true) hl hg h1 h2 h3
      simp [execOp, ho, hcv, ha0, Instr.sliceAt, Instr.slice, run_underlying hu, hb, szOf_sound hT hsz]
      split <;> rfl
    · refine con_sub _ ?_ ⟨_, rfl⟩ (by simp) (by omega)
      intro hp
      have e1 : ¬ R.κ id = (l.getD 0).toNat := by omega
      rw [if_neg e1, adr_add]
  · rename_i id off n e z b zz cc hq
    have hu : P.underlying t = some (.array n e) := (hT _ _ hq).d
    split at hk <;> try exact hk.elim
    rename_i sz hsz
    simp only [conC] at hc
    obtain ⟨h1, h2, h3, h4, hk⟩ := subS_sound hk (Nat.le_refl n) (by simp)
    refine Out.mk (u := .slice (some (if n = (l.getD 0).toNat then R.adr id off else (R.adr id off).add ((l.getD 0).toNat * sz))) ((g.getD n).toNat - (l.getD 0).toNat) (n - (l.getD 0).toNat)) ?_ hk F ?_ hp0
    · have hb := run_bounds (P := P) (w := w) (isS := false) hl hg h1 h2 h3
      simp [execOp, ho, hc, Instr.sliceAt, Instr.sureAddr, run_underlying hu, hb, szOf_sound hT hsz]
    · refine con_sub _ ?_ ⟨_, rfl⟩ (by simp) (by omega)
      intro hp
      have e1 : ¬ n = (l.getD 0).toNat := by omega
      rw [if_neg e1, adr_add]
  · rename_i bs z b zz cc hq
    have hu : P.underlying t = some .string := (hT _ _ hq).d
    obtain ⟨⟨h1, h2, h3⟩, hk⟩ := hk
    simp only [conC] at hc
    refine Out.mk (u := .string (bs.extract (l.getD 0).toNat (g.getD bs.size).toNat)) ?_ hk F rfl trivial
    have hb := run_bounds (P := P) (w := w) (isS := false) hl hg h1 h2 h3
    simp [execOp, ho, hc, Instr.sliceAt, Instr.slice, run_underlying hu, hb]
  · rename_i id off len e z b zz cc hq
    have hu : P.underlying t = some (.slice e) := (hT _ _ hq).d
    split at hk <;> try exact hk.elim
    rename_i sz hsz
    simp only [conC] at hc
    rcases hc with ⟨ad, cp, hcv, had, hlc⟩ | ⟨h0, hcv⟩
    · obtain ⟨h1, h2, h3, h4, hk⟩ := subS_sound hk hlc (by simp)
      refine Out.mk (u := .slice (some (if cp = (l.getD 0).toNat then ad else ad.add ((l.getD 0).toNat * sz))) ((g.getD len).toNat - (l.getD 0).toNat) (cp - (l.getD 0).toNat)) ?_ hk F ?_ hp0
      · have hb := run_bounds (P := P) (w := w) (isS := true) hl hg h1 h2 h3
        simp [execOp, ho, hcv, Instr.sliceAt, Instr.slice, run_underlying hu, hb, szOf_sound hT hsz]
        split <;> rfl
      · refine .inl ⟨_, _, rfl, fun hp => ?_, by omega⟩
        have e1 : ¬ cp = (l.getD 0).toNat := by omega
        have e2 : 0 < len := by omega
        rw [if_neg e1, had e2, adr_add]
    · subst h0
      obtain ⟨h1, h2, h3, h4, hk⟩ := subS_sound hk (Nat.le_refl 0) (by simp)
      have e0 : g.getD ((0 : Nat) : Int) = 0 := by
        have h3' : g.getD ((0 : Nat) : Int) ≤ 0 := by simpa using h3
        omega
      have e1 : (l.getD 0).toNat = 0 := by omega
      have e2 : (g.getD ((0 : Nat) : Int)).toNat = 0 := by omega
      rw [e1, e2] at hk
      refine Out.mk (u := .slice none 0 0) ?_ hk F (.inr ⟨by simp, by simp⟩) hp0
      have hb := run_bounds (P := P) (w := w) (isS := true) hl hg h1 h2 h3
      rw [e1, e2] at hb
      simp [execOp, ho, hcv, Instr.sliceAt, Instr.slice, run_underlying hu, hb, szOf_sound hT hsz]
  · rename_i id off len cp z e zz b zzz cc hq
    have hu : P.underlying t = some (.slice e) := (hT _ _ hq).d
    split at hk <;> try exact hk.elim
    rename_i sz hsz
    obtain ⟨⟨rfl, h1, h2, h3⟩, hk⟩ := hk
    obtain ⟨hcv, hck, hlc⟩ := hc
    have hb := run_bounds (P := P) (w := w) (isS := true) hl hg h1 h2 h3
    have hrun : ∀ k, (k = (if cp = (l.getD 0).toNat then (⟨R.ρ id, off * sz, none⟩ : Addr) else (⟨R.ρ id, off * sz, none⟩ : Addr).add ((l.getD 0).toNat * sz))) → (execOp a.eval o).run P w = .ok (.value (.slice (some k) ((g.getD len).toNat - (l.getD 0).toNat) (cp - (l.getD 0).toNat))) w := fun k hk => by
      subst hk
      simp [execOp, ho, hcv, Instr.sliceAt, Instr.slice, run_underlying hu, hb, szOf_sound hT hsz]
      split <;> rfl
    by_cases h4 : l.getD 0 = 0 ∨ l.getD 0 < cp
    · refine Out.mk (hrun _ rfl) (hk.1 h4) F ?_ hp0
      refine ⟨?_, by omega, by omega⟩
      congr 2
      split
      · have : (l.getD 0).toNat = 0 := by omega
        rw [this, Nat.add_zero]
      · rw [Addr.add_lit, Nat.add_mul]
    · have e1 : (g.getD len).toNat - (l.getD 0).toNat = 0 := by omega
      have e2 : cp - (l.getD 0).toNat = 0 := by omega
      refine Out.mk (hrun _ rfl) (hk.2 h4) F ?_ hp0
      rw [e1, e2]
      exact ⟨_, _, rfl, fun c0 hc0 => by injection hc0, fun h0 => by omega, Nat.le_refl _⟩

theorem run_bounds3 {lo : Option Operand} {hi mx : Operand} {l : Option Int} {h m : Int} {kh km : IntKind} {isS : Bool} {len cap : Nat} (hl : OptI a lo l) (eh : a.eval hi = .int kh h) (em : a.eval mx = .int km m)
    (h0 : 0 ≤ l.getD 0) (h1 : l.getD 0 ≤ h) (h2 : h ≤ m) (h3 : m ≤ cap) :
    (Instr.sliceBounds isS len cap (lo.map a.eval) (some (a.eval hi)) (some (a.eval mx))).run P w = .ok ((l.getD 0).toNat, h.toNat, m.toNat) w := by
  have hm : 0 ≤ m := by omega
  have hh : 0 ≤ h := by omega
  cases lo with
  | none => cases l with
    | none => simp [Instr.sliceBounds, Instr.sliceBound, eh, em, asIntOf, hm, hh, h3, show h ≤ max m 0 by omega]
    | some n => exact hl.elim
  | some x => cases l with
    | none => exact hl.elim
    | some n =>
      obtain ⟨kd, e⟩ := hl
      simp only [Option.getD_some] at h0 h1
      simp [Instr.sliceBounds, Instr.sliceBound, e, eh, em, asIntOf, h0, hm, hh, h3, show h ≤ max m 0 by omega, show n ≤ max h 0 by omega]
theorem s_slice3 (hT : TOk P T) {t : Nat} {x hi mx : Operand} {lo : Option Operand} (ho : o.op = .slice t x lo (some hi) (some mx)) (F : Fit E R s a w) (h : stepA T md s (.slice t x lo (some hi) (some mx)) k) : Out P E a w o k := by
  simp only [stepA, AS.on_eq] at h
  obtain ⟨p, hA, hc, hp0⟩ := onC_sound F h
  clear h
  obtain ⟨l, hB, hl⟩ := onO_sound F hA
  clear hA
  obtain ⟨q1, hC, hg, hq1⟩ := onC_sound F hB
  clear hB
  obtain ⟨q2, hk, hm, hq2⟩ := onC_sound F hC
  clear hC
  split at hk <;> try exact hk.elim
  · rename_i id off len cap kh h km m e zz b zzz cc hq
    have hu : P.underlying t = some (.slice e) := (hT _ _ hq).d
    split at hk <;> try exact hk.elim
    rename_i sz hsz
    obtain ⟨⟨h1, h2, h3, h4, h5⟩, hk⟩ := hk
    obtain ⟨ad, cp, hcv, hcap, had, hlc⟩ := hc
    obtain rfl := hcap cap rfl
    have hb := run_bounds3 (P := P) (w := w) (isS := true) (len := len) (cap := cp) hl hg hm h1 h2 h3 h4
    refine Out.mk (u := .slice (some (if m.toNat = (l.getD 0).toNat then ad else ad.add ((l.getD 0).toNat * sz))) (h.toNat - (l.getD 0).toNat) (m.toNat - (l.getD 0).toNat)) ?_ hk F ?_ hp0
    · simp [execOp, ho, hcv, Instr.sliceAt, Instr.slice, run_underlying hu, hb, szOf_sound hT hsz]
      split <;> rfl
    · refine ⟨_, _, rfl, fun c hc => by injection hc, fun hp => ?_, by omega⟩
      have e1 : ¬ m.toNat = (l.getD 0).toNat := by omega
      have e2 : 0 < len := by omega
      rw [if_neg e1, had e2, adr_add]
  · rename_i id len kh h km m e zz b zzz cc hq
    have hu : P.underlying t = some (.slice e) := (hT _ _ hq).d
    split at hk <;> try exact hk.elim
    rename_i e' z' cs sz hlk hsz
    obtain ⟨⟨h1, h2, h3, h4⟩, hk⟩ := hk
    obtain ⟨hcv, hlc⟩ := hc
    obtain ⟨c, _, hd0, _⟩ := F.hp.blk _ _ hlk
    have ha0 : (⟨R.ρ id, 0, none⟩ : Addr) = R.adr id 0 := by simp [Ren.adr, hd0]
    have hb := run_bounds3 (P := P) (w := w) (isS := true) (len := len) (cap := R.κ id) hl hg hm h1 h2 h3 (by omega)
    refine Out.mk (u := .slice (some (if m.toNat = (l.getD 0).toNat then R.adr id 0 else (R.adr id 0).add ((l.getD 0).toNat * sz))) (h.toNat - (l.getD 0).toNat) (m.toNat - (l.getD 0).toNat)) ?_ hk F ?_ hp0
    · simp [execOp, ho, hcv, ha0, Instr.sliceAt, Instr.slice, run_underlying hu, hb, szOf_sound hT hsz]
      split <;> rfl
    · refine ⟨_, _, rfl, fun c hc => by injection hc, fun hp => ?_, by omega⟩
      have e1 : ¬ m.toNat = (l.getD 0).toNat := by omega
      rw [if_neg e1, adr_add, Nat.zero_add]
  · rename_i id off len kh h km m e zz b zzz cc hq
    have hu : P.underlying t = some (.slice e) := (hT _ _ hq).d
    split at hk <;> try exact hk.elim
    rename_i sz hsz
    obtain ⟨⟨h1, h2, h3, h4, h5⟩, hk⟩ := hk
    rcases hc with ⟨ad, cp, hcv, had, hlc⟩ | ⟨h0, hcv⟩
    · have hb := run_bounds3 (P := P) (w := w) (isS := true) (len := len) (cap := cp) hl hg hm h1 h2 h3 (by omega)
      refine Out.mk (u := .slice (some (if m.toNat = (l.getD 0).toNat then ad else ad.add ((l.getD 0).toNat * sz))) (h.toNat - (l.getD 0).toNat) (m.toNat - (l.getD 0).toNat)) ?_ hk F ?_ hp0
      · simp [execOp, ho, hcv, Instr.sliceAt, Instr.slice, run_underlying hu, hb, szOf_sound hT hsz]
        split <;> rfl
      · refine ⟨_, _, rfl, fun c hc => by injection hc, fun hp => ?_, by omega⟩
        have e1 : ¬ m.toNat = (l.getD 0).toNat := by omega
        rw [if_neg e1, had h5, adr_add]
    · omega
  · rename_i id off len cp0 zz0 kh h km m e zz b zzz cc hq
    have hu : P.underlying t = some (.slice e) := (hT _ _ hq).d
    split at hk <;> try exact hk.elim
    rename_i e' z' cs sz hlk hsz
    obtain ⟨⟨h0, ho0, h1, h2, h3, h4⟩, hk⟩ := hk
    subst h0
    subst ho0
    obtain ⟨hcv, _, hlc⟩ := hc
    obtain ⟨c, _, hd0, _⟩ := F.hp.blk _ _ hlk
    have ha0 : (⟨R.ρ id, 0 * sz, none⟩ : Addr) = R.adr id 0 := by simp [Ren.adr, hd0]
    rw [ha0] at hcv
    have hb := run_bounds3 (P := P) (w := w) (isS := true) (len := len) (cap := cp0) hl hg hm h1 h2 h3 (by omega)
    refine Out.mk (u := .slice (some (if m.toNat = (l.getD 0).toNat then R.adr id 0 else (R.adr id 0).add ((l.getD 0).toNat * sz))) (h.toNat - (l.getD 0).toNat) (m.toNat - (l.getD 0).toNat)) ?_ hk F ?_ hp0
    · simp [execOp, ho, hcv, Instr.sliceAt, Instr.slice, run_underlying hu, hb, szOf_sound hT hsz]
      split <;> rfl
    · refine ⟨_, _, rfl, fun c hc => by injection hc, fun hp => ?_, by omega⟩
      have e1 : ¬ m.toNat = (l.getD 0).toNat := by omega
      rw [if_neg e1, adr_add, Nat.zero_add]

theorem lay_sound {place place' : Nat → Option (Nat × Nat)} (hpl : ∀ i x, place i = some x → place' i = some x) {kk : List AC → Prop} : ∀ (ps : List (Nat × Operand)) (cs : List AC) (vs : Array Value), Fit E R s a w → LL s.nx cs → vs.size = cs.length → conL R cs vs 0 → lay s place kk ps cs →
    ∃ cs' vs', kk cs' ∧ Instr.fill place' vs (ps.map fun p => (p.1, a.eval p.2)) = some vs' ∧ LL s.nx cs' ∧ vs'.size = cs'.length ∧ conL R cs' vs' 0
  | [], cs, vs, F, hl, hs, hc, h => ⟨cs, vs, h, rfl, hl, hs, hc⟩
  | (i, x) :: r, cs, vs, F, hl, hs, hc, h => by
    simp only [lay] at h
    split at h <;> try exact h.elim
    rename_i off z hp
    obtain ⟨v, hk, hcv, hlv⟩ := onV_sound F h
    clear h
    have key : ∀ gs : List AC, cellsOfV v = some gs → gs.length = z → off + z ≤ cs.length → lay s place kk r (cs.take off ++ gs ++ cs.drop (off + gs.length)) →
        ∃ cs' vs', kk cs' ∧ Instr.fill place' vs (((i, x) :: r).map fun p => (p.1, a.eval p.2)) = some vs' ∧ LL s.nx cs' ∧ vs'.size = cs'.length ∧ conL R cs' vs' 0 := by
      intro gs hgs hz hle hk2
      obtain ⟨h1, h2, _⟩ := cellsOfV_sound hgs hcv
      obtain ⟨f1, f2⟩ := Great.foldl_set off (a.eval x).cells.toList 0 vs
      have hlen : (cs.take off ++ gs ++ cs.drop (off + gs.length)).length = cs.length := by simp; omega
      have hlt : (a.eval x).cells.size = z := by omega
      obtain ⟨cs', vs', g1, g2, g3⟩ := lay_sound hpl r (cs.take off ++ gs ++ cs.drop (off + gs.length)) ((a.eval x).cells.zipIdx.foldl (fun cs (x : Value × Nat) => cs.setIfInBounds (off + x.2) x.1) vs) F
        (((hl.take _).app (cellsOfV_lt hgs hlv)).app (hl.drop _)) (by rw [hlen, ← hs]; rw [← Array.foldl_toList]; simpa using f1) (by
          intro j y hj
          rw [Nat.zero_add, ← Array.foldl_toList]
          have := f2 j
          simp only [Nat.add_zero, Array.length_toList] at this
          rw [show (a.eval x).cells.zipIdx.toList = (a.eval x).cells.toList.zipIdx 0 by simp, this]
          rw [List.append_assoc, List.getElem?_append] at hj
          simp only [List.length_take, List.getElem?_append, List.getElem?_drop, Nat.min_eq_left (show off ≤ cs.length by omega)] at hj
          by_cases q1 : j < off
          · rw [if_neg (by omega)]
            rw [if_pos q1, List.getElem?_take, if_pos q1] at hj
            obtain ⟨v', hv', hc'⟩ := hc j y hj
            exact ⟨v', by rwa [Nat.zero_add] at hv', hc'⟩
          · rw [if_neg q1] at hj
            by_cases q2 : j - off < gs.length
            · rw [if_pos q2] at hj
              rw [if_pos (by omega)]
              obtain ⟨v', hv', hc'⟩ := h2 _ y hj
              exact ⟨v', by rw [Nat.zero_add] at hv'; simpa using hv', hc'⟩
            · rw [if_neg q2] at hj
              rw [if_neg (by omega)]
              obtain ⟨v', hv', hc'⟩ := hc _ y hj
              refine ⟨v', ?_, hc'⟩
              rw [Nat.zero_add] at hv'
              rw [show j = off + gs.length + (j - off - gs.length) by omega]; exact hv') hk2
      refine ⟨cs', vs', g1, ?_, g3⟩
      simp only [List.map_cons, Instr.fill, hpl _ _ hp]
      rw [if_neg (by simp; omega)]
      exact g2
    split at hk <;> try exact hk.elim
    · rename_i c
      obtain ⟨⟨h1, h2⟩, hk⟩ := hk
      rw [set_eq c cs off h2] at hk
      exact key [c] rfl (by simp [h1]) (by omega) (by simpa using hk)
    · rename_i gs
      obtain ⟨⟨h1, h2⟩, hk⟩ := hk
      rw [wrn_eq gs cs off (by omega)] at hk
      exact key gs rfl h1 h2 hk

theorem run_mapM_fields (fields : Array Field) (h : ∀ f ∈ fields.toList, (P.info? f.type).isSome = true) (w : World) :
    (fields.mapM fun f => Prod.mk f.offset <$> sizeOf f.type : Sem (Array (Nat × Nat))).run P w = .ok (fields.map fun f => (f.offset, P.cellsOf f.type)) w := by
  rw [Array.mapM_eq_mapM_toList]
  have key : ∀ l : List Field, (∀ f ∈ l, (P.info? f.type).isSome = true) → (l.mapM fun f => Prod.mk f.offset <$> sizeOf f.type : Sem (List (Nat × Nat))).run P w = .ok (l.map fun f => (f.offset, P.cellsOf f.type)) w := by
    intro l hl
    induction l with
    | nil => rfl
    | cons f r ih =>
      have hf := hl f (by simp)
      obtain ⟨x, hx⟩ := Option.isSome_iff_exists.1 hf
      have ih := ih (fun g hg => hl g (by simp [hg]))
      rw [List.mapM_cons]
      have hsz : (sizeOf f.type).run P w = .ok (P.cellsOf f.type) w := by simp [sizeOf, typeInfo, hx, Program.cellsOf]
      simp only [Sem.run_bind, Sem.run_map, ih, hsz, Result.andThen_ok, Sem.run_pure, List.map_cons]
  rw [Sem.run_map, key fields.toList h]
  simp only [Result.andThen_ok]
  rw [← Array.toList_map, Array.toArray_toList]

theorem s_build (hT : TOk P T) {t : Nat} {ps : Array (Nat × Operand)} (ho : o.op = .build t ps) (F : Fit E R s a w) (h : stepA T md s (.build t ps) k) : Out P E a w o k := by
  simp only [stepA, AS.on_eq] at h
  split at h <;> try exact h.elim
  · rename_i fs sz b z cc hq
    have hI := hT _ _ hq
    obtain ⟨fields, hu, hfs, hfi⟩ := hI.d
    obtain ⟨z0, hz, hzs, hzc, hza⟩ := hI.zeroR w
    obtain ⟨cs', vs', g1, g2, g3, g4, g5⟩ := lay_sound (place' := fun i => (fields.map fun f => (f.offset, P.cellsOf f.type))[i]?) (by
      intro i x hx
      cases hq : fs[i]? with
      | none => simp [hq] at hx
      | some p =>
        obtain ⟨o, ft⟩ := p
        simp only [hq] at hx
        cases hz : szOf T ft with
        | none => simp [hz] at hx
        | some q =>
          simp only [hz, Option.map_some, Option.some.injEq] at hx
          subst hx
          have hc : P.cellsOf ft = q := by
            rw [szOf_eq] at hz
            cases hti : T ft with
            | none => simp [hti] at hz
            | some ii =>
              simp only [hti, Option.map_some, Option.some.injEq] at hz
              obtain ⟨xx, _, e1, e2, _⟩ := (hT _ _ hti).inf
              simp [Program.cellsOf, e1, e2, hz]
          rw [← hfs, List.getElem?_map] at hq
          cases hfl : fields.toList[i]? with
          | none => simp [hfl] at hq
          | some fl =>
            simp only [hfl, Option.map_some, Option.some.injEq, Prod.mk.injEq] at hq
            have : fields[i]? = some fl := by simpa using hfl
            simp [this, hq.1, hq.2, hc]) ps.toList _ _ F (hI.zlt _) hzs (hzc R) h
    refine Out.mk (u := .agg vs') ?_ g1 F ⟨_, rfl, g4, g5⟩ g3
    have hm := run_mapM_fields (P := P) fields (by
      intro f hf
      have := hfi (f.offset, f.type) (by rw [← hfs]; exact List.mem_map.2 ⟨f, hf, rfl⟩)
      exact this) w
    simp [execOp, ho, Instr.build, hz, run_underlying hu, hm]
    simp at g2
    simp [g2]
  · rename_i n e sz b z cc hq
    have hI := hT _ _ hq
    have hu : P.underlying t = some (.array n e) := hI.d
    obtain ⟨z0, hz, hzs, hzc, hza⟩ := hI.zeroR w
    split at h <;> try exact h.elim
    rename_i w0 hw0
    obtain ⟨cs', vs', g1, g2, g3, g4, g5⟩ := lay_sound (place' := fun i => some (i * w0, w0)) (fun _ _ h => h) ps.toList _ _ F (hI.zlt _) hzs (hzc R) h
    refine Out.mk (u := .agg vs') ?_ g1 F ⟨_, rfl, g4, g5⟩ g3
    have : (ps.map fun p => (p.1, a.eval p.2)).toList = ps.toList.map fun p => (p.1, a.eval p.2) := by simp
    simp [execOp, ho, Instr.build, hz, run_underlying hu, szOf_sound hT hw0]
    simp [g2]

end Go.AH
