/-
  The steps of A3 are what the machine does: the others, and all of them together.
-/
import Derived.Test.YtfphkpdobbffeaaDoorAh1
import Derived.Maps.AppendAt
import Derived.Laws.IdiomStrings
import Derived.Great.FillDense
import Derived.Lib.AppendZerosOnto
import Derived.Laws.MakeOwn
import Derived.Laws.AppendOwnNone
set_option linter.unusedSimpArgs false
set_option linter.unusedVariables false
namespace Go.AH
open Go.RowKit

variable {P : Program} {T : Nat → Option TI} {md : Bool} {E : Env} {R : Ren} {s : AS} {a : Act} {w : World} {o : Oper} {k : AV → AS → Prop}

theorem eqC_sound {x y : AC} {u v : Value} {r : Bool} {R : Ren} (h : eqC x y = some r) (hx : conC R x u) (hy : conC R y v) (d : Nat) (t : TypeId) (w : World)
    (ht : ∀ k n, x = .int k n → ∃ k, P.underlying t = some (.int k)) (hb : ∀ b, x = .bool b → P.underlying t = some .bool) : (Op.equalIn (d + 1) t u v).run P w = .ok r w := by
  cases x <;> cases y <;> simp only [eqC, reduceCtorEq] at h
  · rename_i k a k' b
    split at h
    · rename_i hk; subst hk
      injection h with h; subst h
      simp only [conC] at hx hy; subst hx; subst hy
      obtain ⟨q, hq⟩ := ht _ _ rfl
      rw [run_equalIn_int w d t k q a b hq]
      rw [show (a == b) = decide (a = b) from by rw [Bool.eq_iff_iff]; simp]
    · cases h
  · injection h with h; subst h
    simp only [conC] at hx hy; subst hx; subst hy
    exact run_equalIn_bool' w d t _ _ (hb _ rfl)

theorem s_nilCheck {x : Operand} (ho : o.op = .nilCheck x) (F : Fit E R s a w) (h : stepA T md s (.nilCheck x) k) : Out P E a w o k := by
  simp only [stepA, AS.on_eq] at h
  obtain ⟨p, hk, hc, hp0⟩ := onC_sound F h
  clear h
  split at hk <;> try exact hk.elim
  · simp only [conC] at hc
    refine Out.mk (u := a.eval x) ?_ hk F hc hp0
    simp [execOp, ho, hc]
  · simp only [conC] at hc
    refine Out.mk (u := a.eval x) ?_ hk F hc hp0
    simp [execOp, ho, hc]

theorem run_eqGuard_c {op : BinOp} {t : TypeId} {x y : Operand} {u v : Value} (hu : u.oneCell' = true) (hi : u ≠ .nilIface) : (eqGuard op t x y u v).run P w = .ok () w := by
  have key : ∀ op, op ≠ .eql → op ≠ .neq → eqGuard op t x y u v = pure () := by intro op h1 h2; cases op <;> first | rfl | contradiction
  have key2 : ∀ op, op = .eql ∨ op = .neq → eqGuard op t x y u v = pure () := by
    intro op ho
    rcases ho with rfl | rfl <;> cases u <;> first | rfl | (exact absurd rfl hi) | (cases hu; done)
  by_cases h : op = .eql ∨ op = .neq
  · rw [key2 op h]; rfl
  · rw [key op (fun e => h (.inl e)) (fun e => h (.inr e))]; rfl

theorem conC.notNilIface {R : Ren} {x : AC} {v : Value} (h : conC R x v) : v ≠ .nilIface := by
  cases x <;> simp only [conC] at h <;> first | (subst h; simp) | (rcases h with ⟨a, c, rfl, _⟩ | ⟨_, rfl⟩ <;> exact Value.noConfusion) | (obtain ⟨a, c, rfl, _⟩ := h; simp) | (obtain ⟨rfl, _⟩ := h; simp)

theorem s_binOp (hT : TOk P T) {op : BinOp} {t ty : Nat} {x y : Operand} (ho : o.op = .binOp op t x y ty) (F : Fit E R s a w) (h : stepA T md s (.binOp op t x y ty) k) : Out P E a w o k := by
  simp only [stepA, AS.on_eq] at h
  obtain ⟨va, hA, hca, hla⟩ := onV_sound F h
  clear h
  obtain ⟨vb, h, hcb, hlb⟩ := onV_sound F hA
  clear hA
  have hr : ∀ u, (eqGuard op t x y (a.eval x) (a.eval y)).run P w = .ok () w → (binOp op t (a.eval x) (a.eval y)).run P w = .ok u w → (execOp a.eval o).run P w = .ok (.value u) w := by
    intro u h1 h2; simp [execOp, ho, h1, h2]
  have hg : ∀ {xa xb : AC}, conC R xa (a.eval x) → conC R xb (a.eval y) → (eqGuard op t x y (a.eval x) (a.eval y)).run P w = .ok () w :=
    fun h1 _ => run_eqGuard_c h1.one h1.notNilIface
  unfold bin at h
  split at h
  · -- numbers
    rename_i ka xa kb xb
    simp only [conV] at hca hcb
    have g := hg hca hcb
    simp only [conC] at hca hcb
    rw [hca, hcb] at g
    split at h
    · rename_i har
      obtain ⟨h1, h2⟩ := lit_iff.1 h
      obtain ⟨n, hn, hrun⟩ := iop_sound t w h2 har (by simpa using h1)
      exact Out.mk (hr _ (by rw [hca, hcb]; exact g) (by rw [hca, hcb]; exact hrun)) hn F rfl trivial
    · rename_i har
      obtain ⟨h1, h2⟩ := lit_iff.1 h
      obtain rfl : ka = kb := by simpa using h1
      obtain ⟨r, hn, hrun⟩ := icmp_sound (P := P) (kd := ka) t w h2 (by simpa using har)
      exact Out.mk (hr _ (by rw [hca, hcb]; exact g) (by rw [hca, hcb]; exact hrun)) hn F rfl trivial
  · -- truth values
    rename_i xa xb
    simp only [conV] at hca hcb
    have g := hg hca hcb
    simp only [conC] at hca hcb
    rw [hca, hcb] at g
    obtain ⟨h1, h2⟩ := lit_iff.1 h
    have hu : P.underlying t = some .bool := by
      split at h1
      · rename_i hq; exact (hT _ _ hq).d
      · cases h1
    have he : (Op.equal t (.bool xa) (.bool xb)).run P w = .ok (xa == xb) w := run_equalIn_bool' w _ t xa xb hu
    split at h2
    · exact Out.mk (hr _ (by rw [hca, hcb]; exact g) (by rw [hca, hcb]; simp [binOp, he])) h2 F rfl trivial
    · exact Out.mk (hr _ (by rw [hca, hcb]; exact g) (by rw [hca, hcb]; simp [binOp, he]; cases xa <;> cases xb <;> rfl)) h2 F rfl trivial
    · exact h2.elim
  · -- strings
    rename_i xa xb
    simp only [conV] at hca hcb
    have g := hg hca hcb
    simp only [conC] at hca hcb
    rw [hca, hcb] at g
    split at h
    · refine Out.mk (hr (.string (xa ++ xb)) (by rw [hca, hcb]; exact g) ?_) h.2 F rfl trivial
      rw [hca, hcb]
      have hle := h.1
      simp only [binOp, Op.stringOp]
      rw [if_neg]
      · rfl
      · simp only [show IntKind.i64.max = 9223372036854775807 from by decide]; omega
    · exact Out.mk (hr _ (by rw [hca, hcb]; exact g) (by rw [hca, hcb]; simp [binOp, Op.stringOp])) h F rfl trivial
    · exact Out.mk (hr _ (by rw [hca, hcb]; exact g) (by rw [hca, hcb]; simp [binOp, Op.stringOp])) h F rfl trivial
    · exact h.elim
  · -- structs and arrays
    rename_i xs ys
    obtain ⟨vs, hva, h1, h2⟩ := hca
    obtain ⟨us, hvb, h3, h4⟩ := hcb
    obtain ⟨hc, h⟩ := h
    split at hc
    · rename_i i d z' b' z hq
      obtain ⟨hx, hy⟩ := hc
      have eL := (hT _ _ hq).eq rfl
      have e1 := eL.guard
      split at h
      · rename_i r hrr
        have he := eL.run (w := w) hrr hx hy h1 h3 h2 h4
        have g : (eqGuard op t x y (a.eval x) (a.eval y)).run P w = .ok () w := by
          rw [hva, hvb]
          cases op <;> first | rfl | simp [eqGuard, e1]
        split at h
        · exact Out.mk (hr _ g (by rw [hva, hvb]; simp [binOp, he])) h F rfl trivial
        · exact Out.mk (hr _ g (by rw [hva, hvb]; simp [binOp, he])) h F rfl trivial
        · exact h.elim
      · exact h.elim
    · exact hc.elim
  · exact h.elim

theorem s_unOp {op : UnOp} {t : Nat} {x : Operand} (ho : o.op = .unOp op t x) (F : Fit E R s a w) (h : stepA T md s (.unOp op t x) k) : Out P E a w o k := by
  simp only [stepA, AS.on_eq] at h
  obtain ⟨p, hk, hc, hp0⟩ := onC_sound F h
  clear h
  split at hk <;> try exact hk.elim
  · simp only [conC] at hc
    exact Out.mk (u := .bool _) (by simp [execOp, ho, hc, Op.unary]) hk F rfl trivial
  · rename_i kd n
    simp only [conC] at hc
    obtain ⟨m, hm, hr⟩ := iop_sound (P := P) (kb := kd) 0 w hk rfl (.inr (.inr rfl))
    refine Out.mk (u := .int kd m) ?_ hm F rfl trivial
    have : (binOp .sub 0 (.int kd 0) (.int kd n)) = Op.intArith .sub kd 0 n := by simp [binOp]
    rw [this] at hr
    simp [execOp, ho, hc, Op.unary, hr]

theorem bytesA_sound : ∀ {cs : List AC} {k : List UInt8 → Prop}, bytesA cs k → ∃ l, k l ∧ l.length = cs.length ∧ ∀ j (hj : j < l.length), cs[j]? = some (.int .u8 (l[j].toNat : Int))
  | [], k, h => ⟨[], h, rfl, fun j hj => by simp at hj⟩
  | x :: r, k, h => by
    unfold bytesA at h
    split at h
    · rename_i he; cases he
    · rename_i n r' he
      injection he with e1 e2
      subst e1; subst e2
      obtain ⟨⟨h0, h1⟩, h2⟩ := h
      obtain ⟨l, g1, g2, g3⟩ := bytesA_sound h2
      refine ⟨_, g1, by simp [g2], fun j hj => ?_⟩
      cases j with
      | zero =>
        simp only [List.getElem?_cons_zero, List.getElem_cons_zero, UInt8.toNat_ofNat']
        congr 2
        omega
      | succ j =>
        simp only [List.getElem?_cons_succ, List.getElem_cons_succ]
        exact g3 j (by simpa using hj)
    · exact h.elim
theorem s_convert (hT : TOk P T) {src dst : Nat} {x : Operand} (ho : o.op = .convert src dst x) (F : Fit E R s a w) (h : stepA T md s (.convert src dst x) k) : Out P E a w o k := by
  simp only [stepA, AS.on_eq] at h
  obtain ⟨p, hk, hc, hp0⟩ := onC_sound F h
  clear h
  split at hk <;> try exact hk.elim
  · rename_i is kd z b zz cc ki n hs hq
    simp only [conC] at hc
    obtain ⟨d, hd⟩ : ∃ d, P.underlying src = some d := by
      have := (hT _ _ hs).d
      cases hz : is.d <;> rw [hz] at this <;> simp only [TD.fits] at this
      case ptr => obtain ⟨_, h⟩ := this; exact ⟨_, h⟩
      case struct => obtain ⟨_, h, _⟩ := this; exact ⟨_, h⟩
      case func => obtain ⟨_, _, _, h⟩ := this; exact ⟨_, h⟩
      all_goals exact ⟨_, this⟩
    refine Out.mk (u := .int kd (kd.wrap n)) ?_ hk F rfl trivial
    have h2 : P.underlying dst = some (.int kd) := (hT _ _ hq).d
    simp [execOp, ho, hc, convert, run_underlying hd, run_underlying h2, Conv.intToInt]
  · rename_i hs hq
    split at hk <;> try exact hk.elim
    rename_i he
    obtain ⟨b', cs, ⟨h1, hk3⟩, hid, hb, hB, hbl⟩ := onCells_sound F hk
    obtain ⟨l, hk4, hll, hlc⟩ := bytesA_sound hk3
    rename_i off len _ _ _ _ _ _
    obtain ⟨vs, f1, _, f2, f3, f4⟩ := run_cells (P := P) hB hb off len h1
    obtain ⟨ad, cp, hv, _, had, _⟩ := hc
    have hlen : l.length = len := by rw [hll]; simp; omega
    have hu1 := (hT _ _ hs).d
    have hu2 := (hT _ _ hq).d
    have hu3 := (hT _ _ he).d
    have hr := run_convert_bytes_back (P := P) w src dst _ ad cp l hu1 hu3 hu2 (fun j hj => by
      rw [had (by omega)]
      refine f2 j _ ?_
      obtain ⟨u, hu, hcu⟩ := f3 j _ (hlc j hj)
      simp only [Nat.zero_add, List.getElem?_toArray] at hu
      simp only [conC] at hcu
      subst hcu
      exact hu)
    rw [hlen] at hr
    refine Out.mk (u := .string ⟨l.toArray⟩) ?_ hk4 F rfl trivial
    simp [execOp, ho, hv, hr]
  · rename_i hs hq
    split at hk <;> try exact hk.elim
    rename_i he hm
    obtain ⟨h1, hk3⟩ := hk
    have hB := F.hp.blk _ _ hm
    obtain ⟨l, hk4, hll, hlc⟩ := bytesA_sound hk3
    rename_i rid len _ _ _ _ _ _ _ _ cs
    obtain ⟨vs, f1, _, f2, f3, f4⟩ := run_cells (P := P) hB rfl 0 len (by omega)
    obtain ⟨hv, _⟩ := hc
    obtain ⟨_, _, hd0, _⟩ := hB
    simp only [Ren.adr, hd0, Nat.add_zero] at f2
    have hlen : l.length = len := by rw [hll]; simp; omega
    have hu1 := (hT _ _ hs).d
    have hu2 := (hT _ _ hq).d
    have hu3 := (hT _ _ he).d
    have hr := run_convert_bytes_back (P := P) w src dst _ ⟨R.ρ rid, 0, none⟩ (R.κ rid) l hu1 hu3 hu2 (fun j hj => by
      refine f2 j _ ?_
      obtain ⟨u, hu, hcu⟩ := f3 j _ (by rw [List.drop_zero]; exact hlc j hj)
      simp only [Nat.zero_add, List.getElem?_toArray] at hu
      simp only [conC] at hcu
      subst hcu
      exact hu)
    rw [hlen] at hr
    refine Out.mk (u := .string ⟨l.toArray⟩) ?_ hk4 F rfl trivial
    simp [execOp, ho, hv, hr]
  · rename_i hs hq
    split at hk <;> try exact hk.elim
    rename_i he
    simp only [conC] at hc
    have hu1 := (hT _ _ hs).d
    have hu2 := (hT _ _ hq).d
    have hu3 := (hT _ _ he).d
    refine Out.mk (u := .string ⟨#[]⟩) ?_ hk F rfl trivial
    simp [execOp, ho, hc, convert, run_underlying hu1, run_underlying hu2, run_underlying hu3, Conv.bytesToString]; rfl

theorem fnOps_sound : ∀ (l : List Operand) {k : List Nat → Prop} (F : Fit E R s a w), stepA.fnOps s l k → ∃ ids, k ids ∧ l.map a.eval = ids.map R.p0 ∧ ∀ i ∈ ids, idOk s.nx i
  | [], k, F, h => ⟨[], h, rfl, by simp⟩
  | x :: r, k, F, h => by
    simp only [stepA.fnOps] at h
    obtain ⟨p, hk, hc, hp0⟩ := onC_sound F h
    split at hk <;> try exact hk.elim
    rename_i id
    obtain ⟨ids, h1, h2, h3⟩ := fnOps_sound r F hk
    simp only [conC] at hc
    exact ⟨id :: ids, h1, by simp [hc, h2, Ren.p0], by intro i hi; rcases List.mem_cons.1 hi with e | e; exact e ▸ hp0; exact h3 i e⟩

theorem s_makeFunc {f : FuncId} {fs cs : Array Operand} (ho : o.op = .makeFunc (.func f) fs cs) (F : Fit E R s a w) (h : stepA T md s (.makeFunc (.func f) fs cs) k) : Out P E a w o k := by
  simp only [stepA, AS.on_eq] at h
  obtain ⟨l1, h, e1, i1⟩ := fnOps_sound _ F h
  obtain ⟨l2, h, e2, i2⟩ := fnOps_sound _ F h
  refine Out.mk (u := .func (.func f) (l1.map R.p0).toArray (l2.map R.p0).toArray) ?_ h F rfl ⟨i1, i2⟩
  have h1 : fs.map a.eval = (l1.map R.p0).toArray := by rw [← e1, ← Array.toList_map, Array.toArray_toList]
  have h2 : cs.map a.eval = (l2.map R.p0).toArray := by rw [← e2, ← Array.toList_map, Array.toArray_toList]
  simp [execOp, ho, Instr.makeFunc, h1, h2]

theorem szOf_sound (hT : TOk P T) {t z : Nat} (h : szOf T t = some z) (w : World) : (sizeOf t).run P w = .ok z w := by
  rw [szOf_eq] at h
  cases hq : T t with
  | none => simp [hq] at h
  | some i => simp [hq] at h; subst h; exact (hT _ _ hq).size w

theorem s_fieldAddr (hT : TOk P T) {t f : Nat} {x : Operand} (ho : o.op = .fieldAddr t x f) (F : Fit E R s a w) (h : stepA T md s (.fieldAddr t x f) k) : Out P E a w o k := by
  simp only [stepA, AS.on_eq] at h
  obtain ⟨p, hk, hc, hp0⟩ := onC_sound F h
  clear h
  split at hk <;> try exact hk.elim
  rename_i id off fs z b zz cc hq
  obtain ⟨fields, hu, hfs, hfi⟩ := (hT _ _ hq).d
  split at hk <;> try exact hk.elim
  rename_i fo ft hf
  obtain ⟨hz, hk'⟩ := lit_iff.1 hk
  clear hk
  have hk := hk'
  clear hk'
  obtain ⟨sz, hsz⟩ : ∃ sz, szOf T ft = some (sz + 1) := by
    cases hq : szOf T ft with
    | none => rw [hq] at hz; cases hz
    | some sz => cases sz with
      | zero => rw [hq] at hz; cases hz
      | succ sz => exact ⟨sz, rfl⟩
  simp only [conC] at hc
  obtain ⟨fl, h1, h2⟩ : ∃ fl, fields[f]? = some fl ∧ (fl.offset, fl.type) = (fo, ft) := by
    rw [← hfs, List.getElem?_map] at hf
    cases hq : fields.toList[f]? with
    | none => simp [hq] at hf
    | some fl => simp [hq] at hf; exact ⟨fl, by simpa using hq, by simp [hf]⟩
  obtain ⟨rfl, rfl⟩ : fl.offset = fo ∧ fl.type = ft := by simpa using h2
  refine Out.mk (u := .pointer (some (R.adr id (off + fl.offset)))) ?_ hk F rfl hp0
  simp [execOp, ho, hc, Instr.fieldAt, run_underlying hu, h1, Instr.sureAddr, fieldPlace, szOf_sound hT hsz, adr_add]

theorem s_indexAddr (hT : TOk P T) {t : Nat} {x y : Operand} (ho : o.op = .indexAddr t x y) (F : Fit E R s a w) (h : stepA T md s (.indexAddr t x y) k) : Out P E a w o k := by
  simp only [stepA, AS.on_eq] at h
  obtain ⟨p, hA, hc, hp0⟩ := onC_sound F h
  clear h
  obtain ⟨q, hk, hd, hq0⟩ := onC_sound F hA
  clear hA
  split at hk <;> try exact hk.elim
  · rename_i id off kd i n e z b zz cc hq
    have hu : P.underlying t = some (.array n e) := (hT _ _ hq).d
    split at hk <;> try exact hk.elim
    rename_i sz hsz
    obtain ⟨hb, hk⟩ := hk
    simp only [conC] at hc hd
    refine Out.mk (u := .pointer (some (R.adr id (off + i.toNat * sz)))) ?_ hk F rfl hp0
    simp [execOp, ho, hc, hd, Instr.indexAt, asIntOf, run_underlying hu, Instr.sureAddr, hb.1, hb.2, szOf_sound hT hsz, adr_add]
  · rename_i id off len cap kd i e z b zz cc hq
    have hu : P.underlying t = some (.slice e) := (hT _ _ hq).d
    split at hk <;> try exact hk.elim
    rename_i sz hsz
    obtain ⟨hb, hk⟩ := hk
    simp only [conC] at hc hd
    obtain ⟨ad, cp, hc, _, hc2, _⟩ := hc
    obtain rfl := hc2 (by omega)
    refine Out.mk (u := .pointer (some (R.adr id (off + i.toNat * sz)))) ?_ hk F rfl hp0
    simp [execOp, ho, hc, hd, Instr.indexAt, asIntOf, run_underlying hu, hb.1, hb.2, szOf_sound hT hsz, adr_add]
  · rename_i id len kd i e z b zz cc hq
    have hu : P.underlying t = some (.slice e) := (hT _ _ hq).d
    split at hk <;> try exact hk.elim
    rename_i e' z' cs sz hl hsz
    obtain ⟨hb, hk⟩ := hk
    simp only [conC] at hc hd
    have hB := F.hp.blk _ _ hl
    obtain ⟨c, _, hd0, _⟩ := hB
    refine Out.mk (u := .pointer (some (R.adr id (i.toNat * sz)))) ?_ hk F rfl hp0
    have : (⟨R.ρ id, 0, none⟩ : Addr) = R.adr id 0 := by simp [Ren.adr, hd0]
    simp [execOp, ho, hc, hd, Instr.indexAt, asIntOf, run_underlying hu, hb.1, hb.2, szOf_sound hT hsz, this, adr_add]
  · rename_i id off len kd i e z b zz cc hq
    have hu : P.underlying t = some (.slice e) := (hT _ _ hq).d
    split at hk <;> try exact hk.elim
    rename_i sz hsz
    obtain ⟨hb, hk⟩ := hk
    simp only [conC] at hc hd
    rcases hc with ⟨ad, cp, hc, hc2, _⟩ | ⟨h0, _⟩
    · obtain rfl := hc2 (by omega)
      refine Out.mk (u := .pointer (some (R.adr id (off + i.toNat * sz)))) ?_ hk F rfl hp0
      simp [execOp, ho, hc, hd, Instr.indexAt, asIntOf, run_underlying hu, hb.1, hb.2, szOf_sound hT hsz, adr_add]
    · omega

theorem s_extract {x : Operand} {i : Nat} (ho : o.op = .extract x i) (F : Fit E R s a w) (h : stepA T md s (.extract x i) k) : Out P E a w o k := by
  simp only [stepA, AS.on_eq] at h
  obtain ⟨p, hk, hc, hp0⟩ := onV_sound F h
  clear h
  split at hk <;> try exact hk.elim
  rename_i es
  split at hk <;> try exact hk.elim
  rename_i e he
  obtain ⟨vs, hv, h1, h2⟩ := hc
  obtain ⟨u, hu, hcu⟩ := h2 i e he
  refine Out.mk (u := u) ?_ hk F ((conV_v R e u).2 hcu) ?_
  · simp [execOp, ho, hv, Instr.extract, hu]
  · have := hp0 e (List.mem_of_getElem? he)
    cases e <;> exact this

theorem s_field (hT : TOk P T) {t f : Nat} {x : Operand} (ho : o.op = .field t x f) (F : Fit E R s a w) (h : stepA T md s (.field t x f) k) : Out P E a w o k := by
  simp only [stepA, AS.on_eq] at h
  obtain ⟨p, hk, hc, hp0⟩ := onV_sound F h
  clear h
  split at hk <;> try exact hk.elim
  rename_i cs fs z b zz cc hq
  obtain ⟨fields, hu, hfs, hfi⟩ := (hT _ _ hq).d
  split at hk <;> try exact hk.elim
  rename_i fo ft hf
  obtain ⟨fl, h1, h2⟩ : ∃ fl, fields[f]? = some fl ∧ (fl.offset, fl.type) = (fo, ft) := by
    rw [← hfs, List.getElem?_map] at hf
    cases hq : fields.toList[f]? with
    | none => simp [hq] at hf
    | some fl => simp [hq] at hf; exact ⟨fl, by simpa using hq, by simp [hf]⟩
  obtain ⟨rfl, rfl⟩ : fl.offset = fo ∧ fl.type = ft := by simpa using h2
  split at hk <;> try exact hk.elim
  rename_i i hi
  have hI := hT _ _ hi
  obtain ⟨vs, hv, hs, hcl⟩ := hc
  split at hk
  · rename_i hag
    split at hk <;> try exact hk.elim
    rename_i z hz
    obtain ⟨v, hv1, hv2⟩ := hcl fl.offset _ (List.getElem?_eq_getElem (by omega))
    rw [Nat.zero_add] at hv1
    refine Out.mk (u := v) ?_ hk.2 F ?_ (LL.getD hp0 _ z hk.1)
    · simp [execOp, ho, hv, Instr.field, run_underlying hu, h1, part, asAgg, hI.aggR, hag, hv1]
    · simpa [conV, List.getD, List.getElem?_eq_getElem (show fl.offset < cs.length by omega)] using hv2
  · rename_i hag
    refine Out.mk (u := .agg (vs.extract fl.offset (fl.offset + i.size))) ?_ hk.2 F ⟨_, rfl, ?_, ?_⟩ ((LL.drop hp0 _).take _)
    · simp [execOp, ho, hv, Instr.field, run_underlying hu, h1, part, asAgg, hI.aggR, hag, hI.size]
    · have := hk.1; simp; omega
    · intro j y hj
      simp only [List.getElem?_take, List.getElem?_drop] at hj
      split at hj
      · rename_i hjn
        obtain ⟨v, hv1, hv2⟩ := hcl _ y hj
        refine ⟨v, ?_, hv2⟩
        rw [Nat.zero_add] at hv1 ⊢
        rw [Array.getElem?_extract]
        have := (Array.getElem?_eq_some_iff.1 hv1).1
        rw [if_pos (by omega)]; exact hv1
      · cases hj

theorem s_index (hT : TOk P T) {t : Nat} {x y : Operand} (ho : o.op = .index t x y) (F : Fit E R s a w) (h : stepA T md s (.index t x y) k) : Out P E a w o k := by
  simp only [stepA, AS.on_eq] at h
  obtain ⟨p, hA, hc, hp0⟩ := onV_sound F h
  clear h
  obtain ⟨q, hk, hd, hq0⟩ := onC_sound F hA
  clear hA
  split at hk <;> try exact hk.elim
  · rename_i cs kd i n e z b zz cc hq
    have hu : P.underlying t = some (.array n e) := (hT _ _ hq).d
    split at hk <;> try exact hk.elim
    rename_i ed b' z' cmp hi
    have hI := hT _ _ hi
    obtain ⟨⟨hag, h1, h2, h3⟩, hk⟩ := hk
    obtain ⟨vs, hv, hs, hcl⟩ := hc
    simp only [conC] at hd
    obtain ⟨v, hv1, hv2⟩ := hcl i.toNat _ (List.getElem?_eq_getElem h3)
    rw [Nat.zero_add] at hv1
    have hag' : TI.agg ⟨ed, 1, b', [z'], cmp⟩ = false := hag
    refine Out.mk (u := v) ?_ hk F ?_ (LL.getD hp0 _ _ h3)
    · have hsz := hI.size w
      have har := hI.aggR w
      rw [hag'] at har
      simp [execOp, ho, hv, hd, Instr.index, asIntOf, run_underlying hu, h1, h2, hsz, part, har, hv1]
    · simpa [conV, List.getD, List.getElem?_eq_getElem h3] using hv2
  · rename_i bs kd i z b zz cc hq
    have hu : P.underlying t = some .string := (hT _ _ hq).d
    obtain ⟨⟨h1, h2⟩, hk⟩ := hk
    simp only [conC, conV] at hc hd
    refine Out.mk (u := .int .u8 ((bs.data.toList.getD i.toNat 0).toNat : Int)) ?_ hk F rfl trivial
    have hlt : i.toNat < bs.size := by omega
    have : bs[i.toNat]? = some (bs.data.toList.getD i.toNat 0) := by
      have hlt' : i.toNat < bs.data.toList.length := by simpa using hlt
      simp only [List.getD, List.getElem?_eq_getElem hlt', Option.getD_some]
      rw [getElem?_pos bs i.toNat hlt]; rfl
    simp [execOp, ho, hc, hd, Instr.index, asIntOf, run_underlying hu, h1, this]

theorem s_makeMap {t : Nat} (ho : o.op = .makeMap t none) (F : Fit E R s a w) (h : stepA T md s (.makeMap t none) k) : Out P E a w o k := by
  simp only [stepA, AS.on_eq] at h
  obtain ⟨hG, hk⟩ := lit_iff.1 h
  rw [decide_eq_true_eq] at hG
  have hag := Ren.set_agree R s.nx w.heap.size 0 0 hG
  have hf : lk s.hp s.nx = none := by
    cases hq : lk s.hp s.nx with
    | none => rfl
    | some b => have := F.nx _ _ hq; omega
  have F1 := (F.keep0 (w.grownBy_alloc (.map #[] 0) none)).ren hag (Ren.set_ok _ _ _ _ hG F.ok) (Nat.le_succ s.nx) (show s.nx + 1 ≤ GB by omega)
  have F2 : Fit E (R.set s.nx w.heap.size 0 0) { s with hp := (s.nx, .mp []) :: s.hp, nx := s.nx + 1 } a (w.alloc (.map #[] 0)) := by
    refine F1.add hf ?_ (fun _ => .inr ?_) ?_ (.inl (Nat.lt_succ_self _)) (by intro p hp; cases hp)
    · refine ⟨#[], 0, ?_, rfl, by simp⟩
      rw [Ren.set_ρ]; exact World.alloc_heap_new w _
    · rw [Ren.set_ρ]; exact F.fr.size
    · intro j c hj _
      rw [Ren.set_ρ, (hag j (F.wf.hp j c hj).1).1]
      exact fun e => absurd (F.hp.blk j c hj).lt (by omega)
  refine ⟨.value (.map (some w.heap.size)), w.alloc (.map #[] 0), _, _, _, _, ?_, .inl rfl, hk, F2, ?_, .inl (Nat.lt_succ_self _)⟩
  · simp [execOp, ho, Instr.makeMap]
  · simp [conV, conC, Ren.set]

def OptI (a : Act) (x : Option Operand) (n : Option Int) : Prop := match x, n with | none, none => True | some x, some n => ∃ kd, a.eval x = .int kd n | _, _ => False

theorem onO_sound {x : Option Operand} {k : Option Int → Prop} (F : Fit E R s a w) (h : stepA.onO s x k) : ∃ n : Option Int, k n ∧ OptI a x n := by
  cases x with
  | none => exact ⟨none, h, trivial⟩
  | some x =>
    simp only [stepA.onO] at h
    obtain ⟨p, hk, hc, hp0⟩ := onC_sound F h
    clear h
    split at hk <;> try exact hk.elim
    rename_i kd n
    exact ⟨some n, hk, kd, hc⟩

theorem run_bounds {lo hi : Option Operand} {l h : Option Int} {isS : Bool} {len cap : Nat} (hl : OptI a lo l)
    (hh : OptI a hi h) (h0 : 0 ≤ l.getD 0) (h1 : l.getD 0 ≤ h.getD len) (h2 : h.getD len ≤ cap) :
    (Instr.sliceBounds isS len cap (lo.map a.eval) (hi.map a.eval) none).run P w = .ok ((l.getD 0).toNat, (h.getD len).toNat, cap) w := by
  cases hi with
  | none => cases h with
    | some n => exact hh.elim
    | none => cases lo with
      | none => cases l with
        | none => simp [Instr.sliceBounds]
        | some n => exact hl.elim
      | some x => cases l with
        | none => exact hl.elim
        | some n =>
          obtain ⟨kd, e⟩ := hl
          simp only [Option.getD_some, Option.getD_none] at h0 h1 h2
          simp [Instr.sliceBounds, Instr.sliceBound, e, asIntOf, h0, h1]
  | some y => cases h with
    | none => exact hh.elim
    | some m =>
      obtain ⟨kd2, e2⟩ := hh
      simp only [Option.getD_some] at h1 h2
      have hm : 0 ≤ m := by omega
      cases lo with
      | none => cases l with
        | none => simp [Instr.sliceBounds, Instr.sliceBound, e2, asIntOf, hm, h2]
        | some n => exact hl.elim
      | some x => cases l with
        | none => exact hl.elim
        | some n =>
          obtain ⟨kd, e⟩ := hl
          simp only [Option.getD_some] at h0 h1
          simp [Instr.sliceBounds, Instr.sliceBound, e, e2, asIntOf, h0, h2, hm, show ¬ (max m 0 < n) by omega]

theorem subS_sound {off len z : Nat} {cap : Option Nat} {l h : Option Int} {k : Nat → Nat → Option Nat → Prop} (hs : stepA.subS off len cap z l h k) {cp : Nat} (hlen : len ≤ cp) (hcap : ∀ c, cap = some c → cp = c) :
    0 ≤ l.getD 0 ∧ l.getD 0 ≤ h.getD len ∧ h.getD len ≤ cp ∧ (h.getD len ≤ len ∨ 0 < len) ∧ k (off + (l.getD 0).toNat * z) ((h.getD len).toNat - (l.getD 0).toNat) (cap.map (· - (l.getD 0).toNat)) := by
  obtain ⟨⟨h1, h2, h3⟩, hk⟩ := hs
  refine ⟨h1, h2, ?_, ?_, hk⟩
  · rcases h3 with h3 | ⟨c, hc, h3, _⟩
    · omega
    · rw [hcap c hc]; exact h3
  · rcases h3 with h3 | ⟨c, hc, h3, h4⟩
    · exact .inl h3
    · exact .inr h4

/-- A part of what a block's address leads to. -/
theorem con_sub {R : Ren} {id off l h cp z : Nat} {cap : Option Nat} (ad : Option Addr) (had : 0 < h - l → ad = some (R.adr id (off + l * z))) (hsome : ∃ x, ad = some x) (hcap : ∀ c, cap = some c → cp = c) (hh : h ≤ cp) :
    conC R (.sl id (off + l * z) (h - l) (cap.map (· - l))) (.slice ad (h - l) (cp - l)) := by
  obtain ⟨x, rfl⟩ := hsome
  refine ⟨x, cp - l, rfl, ?_, fun hp => ?_, by omega⟩
  · intro c hc
    cases cap with
    | none => cases hc
    | some c0 => simp at hc; rw [hcap c0 rfl, hc]
  · have := had hp; injection this

theorem s_slice (hT : TOk P T) {t : Nat} {x : Operand} {lo hi : Option Operand} (ho : o.op = .slice t x lo hi none) (F : Fit E R s a w) (h : stepA T md s (.slice t x lo hi none) k) : Out P E a w o k := by
  simp only [stepA, AS.on_eq] at h
  obtain ⟨p, hA, hc, hp0⟩ := onC_sound F h
  clear h
  obtain ⟨l, hB, hl⟩ := onO_sound F hA
  clear hA
  obtain ⟨g, hk, hg⟩ := onO_sound F hB
  clear hB
  split at hk <;> try exact hk.elim
  · rename_i id off len cap e z b zz cc hq
    have hu : P.underlying t = some (.slice e) := (hT _ _ hq).d
    split at hk <;> try exact hk.elim
    rename_i sz hsz
    obtain ⟨ad, cp, hcv, hcap, had, hlc⟩ := hc
    obtain ⟨h1, h2, h3, h4, hk⟩ := subS_sound hk hlc hcap
    refine Out.mk (u := .slice (some (if cp = (l.getD 0).toNat then ad else ad.add ((l.getD 0).toNat * sz))) ((g.getD len).toNat - (l.getD 0).toNat) (cp - (l.getD 0).toNat)) ?_ hk F ?_ hp0
    · have hb := run_bounds (P := P) (w := w) (isS := true) hl hg h1 h2 h3
      simp [execOp, ho, hcv, Instr.sliceAt, Instr.slice, run_underlying hu, hb, szOf_sound hT hsz]
      split <;> rfl
    · refine con_sub _ ?_ ⟨_, rfl⟩ hcap (by omega)
      intro hp
      have e1 : ¬ cp = (l.getD 0).toNat := by omega
      have e2 : 0 < len := by omega
      rw [if_neg e1, had e2, adr_add]
  · rename_i e z b zz cc hq
    have hu : P.underlying t = some (.slice e) := (hT _ _ hq).d
    split at hk <;> try exact hk.elim
    rename_i sz hsz
    obtain ⟨⟨h1, h2⟩, hk⟩ := hk
    simp only [conC] at hc
    refine Out.mk (u := .slice none 0 0) ?_ hk F rfl trivial
    have hb := run_bounds (P := P) (w := w) (isS := true) (len := 0) (cap := 0) hl hg (by omega) (by rw [h1]; simpa using Int.le_of_eq h2.symm) (by simpa using Int.le_of_eq h2)
    have e1 : (l.getD 0).toNat = 0 := by omega
    have e2 : (g.getD ((0 : Nat) : Int)).toNat = 0 := by
      have : g.getD ((0 : Nat) : Int) = 0 := by simpa using h2
      omega
    rw [e1, e2] at hb
    simp [execOp, ho, hc, Instr.sliceAt, Instr.slice, run_underlying hu, hb, szOf_sound hT hsz]
  · rename_i id len e z b zz cc hq
    have hu : P.underlying t = some (.slice e) := (hT _ _ hq).d
    split at hk <;> try exact hk.elim
    rename_i e' z' cs sz hlk hsz
    obtain ⟨hcv, hlc⟩ := hc
    obtain ⟨c, _, hd0, _⟩ := F.hp.blk _ _ hlk
    have ha0 : (⟨R.ρ id, 0, none⟩ : Addr) = R.adr id 0 := by simp [Ren.adr, hd0]
    obtain ⟨h1, h2, h3, h4, hk⟩ := subS_sound hk hlc (by simp)
    refine Out.mk (u := .slice (some (if R.κ id = (l.getD 0).toNat then R.adr id 0 else (R.adr id 0).add ((l.getD 0).toNat * sz))) ((g.getD len).toNat - (l.getD 0).toNat) (R.κ id - (l.getD 0).toNat)) ?_ hk F ?_ hp0
    · have hb := run_bounds (P := P) (w := w) (isS := true) hl hg h1 h2 h3
      simp [execOp, ho, hcv, ha0, Instr.sliceAt, Instr.slice, run_underlying hu, hb, szOf_sound hT hsz]
      split <;> rfl
    · refine con_sub _ ?_ ⟨_, rfl⟩ (by simp) (by omega)
      intro hp
      have e1 : ¬ R.κ id = (l.getD 0).toNat := by omega
      rw [if_neg e1, adr_add]
  · rename_i id off n e z b zz cc hq
    have hu : P.underlying t = some (.array n e) := (hT _ _ hq).d
    split at hk <;> try exact hk.elim
    rename_i sz hsz
    simp only [conC] at hc
    obtain ⟨h1, h2, h3, h4, hk⟩ := subS_sound hk (Nat.le_refl n) (by simp)
    refine Out.mk (u := .slice (some (if n = (l.getD 0).toNat then R.adr id off else (R.adr id off).add ((l.getD 0).toNat * sz))) ((g.getD n).toNat - (l.getD 0).toNat) (n - (l.getD 0).toNat)) ?_ hk F ?_ hp0
    · have hb := run_bounds (P := P) (w := w) (isS := false) hl hg h1 h2 h3
      simp [execOp, ho, hc, Instr.sliceAt, Instr.sureAddr, run_underlying hu, hb, szOf_sound hT hsz]
    · refine con_sub _ ?_ ⟨_, rfl⟩ (by simp) (by omega)
      intro hp
      have e1 : ¬ n = (l.getD 0).toNat := by omega
      rw [if_neg e1, adr_add]
  · rename_i bs z b zz cc hq
    have hu : P.underlying t = some .string := (hT _ _ hq).d
    obtain ⟨⟨h1, h2, h3⟩, hk⟩ := hk
    simp only [conC] at hc
    refine Out.mk (u := .string (bs.extract (l.getD 0).toNat (g.getD bs.size).toNat)) ?_ hk F rfl trivial
    have hb := run_bounds (P := P) (w := w) (isS := false) hl hg h1 h2 h3
    simp [execOp, ho, hc, Instr.sliceAt, Instr.slice, run_underlying hu, hb]
  · rename_i id off len e z b zz cc hq
    have hu : P.underlying t = some (.slice e) := (hT _ _ hq).d
    split at hk <;> try exact hk.elim
    rename_i sz hsz
    simp only [conC] at hc
    rcases hc with ⟨ad, cp, hcv, had, hlc⟩ | ⟨h0, hcv⟩
    · obtain ⟨h1, h2, h3, h4, hk⟩ := subS_sound hk hlc (by simp)
      refine Out.mk (u := .slice (some (if cp = (l.getD 0).toNat then ad else ad.add ((l.getD 0).toNat * sz))) ((g.getD len).toNat - (l.getD 0).toNat) (cp - (l.getD 0).toNat)) ?_ hk F ?_ hp0
      · have hb := run_bounds (P := P) (w := w) (isS := true) hl hg h1 h2 h3
        simp [execOp, ho, hcv, Instr.sliceAt, Instr.slice, run_underlying hu, hb, szOf_sound hT hsz]
        split <;> rfl
      · refine .inl ⟨_, _, rfl, fun hp => ?_, by omega⟩
        have e1 : ¬ cp = (l.getD 0).toNat := by omega
        have e2 : 0 < len := by omega
        rw [if_neg e1, had e2, adr_add]
    · subst h0
      obtain ⟨h1, h2, h3, h4, hk⟩ := subS_sound hk (Nat.le_refl 0) (by simp)
      have e0 : g.getD ((0 : Nat) : Int) = 0 := by
        have h3' : g.getD ((0 : Nat) : Int) ≤ 0 := by simpa using h3
        omega
      have e1 : (l.getD 0).toNat = 0 := by omega
      have e2 : (g.getD ((0 : Nat) : Int)).toNat = 0 := by omega
      rw [e1, e2] at hk
      refine Out.mk (u := .slice none 0 0) ?_ hk F (.inr ⟨by simp, by simp⟩) hp0
      have hb := run_bounds (P := P) (w := w) (isS := true) hl hg h1 h2 h3
      rw [e1, e2] at hb
      simp [execOp, ho, hcv, Instr.sliceAt, Instr.slice, run_underlying hu, hb, szOf_sound hT hsz]
  · rename_i id off len cp z e zz b zzz cc hq
    have hu : P.underlying t = some (.slice e) := (hT _ _ hq).d
    split at hk <;> try exact hk.elim
    rename_i sz hsz
    obtain ⟨⟨rfl, h1, h2, h3, h4⟩, hk⟩ := hk
    obtain ⟨hcv, hck, hlc⟩ := hc
    refine Out.mk (u := .slice (some (if cp = (l.getD 0).toNat then ⟨R.ρ id, off * sz, none⟩ else (⟨R.ρ id, off * sz, none⟩ : Addr).add ((l.getD 0).toNat * sz))) ((g.getD len).toNat - (l.getD 0).toNat) (cp - (l.getD 0).toNat)) ?_ hk F ?_ hp0
    · have hb := run_bounds (P := P) (w := w) (isS := true) hl hg h1 h2 h3
      simp [execOp, ho, hcv, Instr.sliceAt, Instr.slice, run_underlying hu, hb, szOf_sound hT hsz]
      split <;> rfl
    · refine ⟨?_, by omega, by omega⟩
      congr 2
      split
      · have : (l.getD 0).toNat = 0 := by omega
        rw [this, Nat.add_zero]
      · rw [Addr.add_lit, Nat.add_mul]

theorem run_bounds3 {lo : Option Operand} {hi mx : Operand} {l : Option Int} {h m : Int} {kh km : IntKind} {isS : Bool} {len cap : Nat} (hl : OptI a lo l) (eh : a.eval hi = .int kh h) (em : a.eval mx = .int km m)
    (h0 : 0 ≤ l.getD 0) (h1 : l.getD 0 ≤ h) (h2 : h ≤ m) (h3 : m ≤ cap) :
    (Instr.sliceBounds isS len cap (lo.map a.eval) (some (a.eval hi)) (some (a.eval mx))).run P w = .ok ((l.getD 0).toNat, h.toNat, m.toNat) w := by
  have hm : 0 ≤ m := by omega
  have hh : 0 ≤ h := by omega
  cases lo with
  | none => cases l with
    | none => simp [Instr.sliceBounds, Instr.sliceBound, eh, em, asIntOf, hm, hh, h3, show h ≤ max m 0 by omega]
    | some n => exact hl.elim
  | some x => cases l with
    | none => exact hl.elim
    | some n =>
      obtain ⟨kd, e⟩ := hl
      simp only [Option.getD_some] at h0 h1
      simp [Instr.sliceBounds, Instr.sliceBound, e, eh, em, asIntOf, h0, hm, hh, h3, show h ≤ max m 0 by omega, show n ≤ max h 0 by omega]
theorem s_slice3 (hT : TOk P T) {t : Nat} {x hi mx : Operand} {lo : Option Operand} (ho : o.op = .slice t x lo (some hi) (some mx)) (F : Fit E R s a w) (h : stepA T md s (.slice t x lo (some hi) (some mx)) k) : Out P E a w o k := by
  simp only [stepA, AS.on_eq] at h
  obtain ⟨p, hA, hc, hp0⟩ := onC_sound F h
  clear h
  obtain ⟨l, hB, hl⟩ := onO_sound F hA
  clear hA
  obtain ⟨q1, hC, hg, hq1⟩ := onC_sound F hB
  clear hB
  obtain ⟨q2, hk, hm, hq2⟩ := onC_sound F hC
  clear hC
  split at hk <;> try exact hk.elim
  · rename_i id off len cap kh h km m e zz b zzz cc hq
    have hu : P.underlying t = some (.slice e) := (hT _ _ hq).d
    split at hk <;> try exact hk.elim
    rename_i sz hsz
    obtain ⟨⟨h1, h2, h3, h4, h5⟩, hk⟩ := hk
    obtain ⟨ad, cp, hcv, hcap, had, hlc⟩ := hc
    obtain rfl := hcap cap rfl
    have hb := run_bounds3 (P := P) (w := w) (isS := true) (len := len) (cap := cp) hl hg hm h1 h2 h3 h4
    refine Out.mk (u := .slice (some (if m.toNat = (l.getD 0).toNat then ad else ad.add ((l.getD 0).toNat * sz))) (h.toNat - (l.getD 0).toNat) (m.toNat - (l.getD 0).toNat)) ?_ hk F ?_ hp0
    · simp [execOp, ho, hcv, Instr.sliceAt, Instr.slice, run_underlying hu, hb, szOf_sound hT hsz]
      split <;> rfl
    · refine ⟨_, _, rfl, fun c hc => by injection hc, fun hp => ?_, by omega⟩
      have e1 : ¬ m.toNat = (l.getD 0).toNat := by omega
      have e2 : 0 < len := by omega
      rw [if_neg e1, had e2, adr_add]
  · rename_i id len kh h km m e zz b zzz cc hq
    have hu : P.underlying t = some (.slice e) := (hT _ _ hq).d
    split at hk <;> try exact hk.elim
    rename_i e' z' cs sz hlk hsz
    obtain ⟨⟨h1, h2, h3, h4⟩, hk⟩ := hk
    obtain ⟨hcv, hlc⟩ := hc
    obtain ⟨c, _, hd0, _⟩ := F.hp.blk _ _ hlk
    have ha0 : (⟨R.ρ id, 0, none⟩ : Addr) = R.adr id 0 := by simp [Ren.adr, hd0]
    have hb := run_bounds3 (P := P) (w := w) (isS := true) (len := len) (cap := R.κ id) hl hg hm h1 h2 h3 (by omega)
    refine Out.mk (u := .slice (some (if m.toNat = (l.getD 0).toNat then R.adr id 0 else (R.adr id 0).add ((l.getD 0).toNat * sz))) (h.toNat - (l.getD 0).toNat) (m.toNat - (l.getD 0).toNat)) ?_ hk F ?_ hp0
    · simp [execOp, ho, hcv, ha0, Instr.sliceAt, Instr.slice, run_underlying hu, hb, szOf_sound hT hsz]
      split <;> rfl
    · refine ⟨_, _, rfl, fun c hc => by injection hc, fun hp => ?_, by omega⟩
      have e1 : ¬ m.toNat = (l.getD 0).toNat := by omega
      rw [if_neg e1, adr_add, Nat.zero_add]
  · rename_i id off len kh h km m e zz b zzz cc hq
    have hu : P.underlying t = some (.slice e) := (hT _ _ hq).d
    split at hk <;> try exact hk.elim
    rename_i sz hsz
    obtain ⟨⟨h1, h2, h3, h4, h5⟩, hk⟩ := hk
    rcases hc with ⟨ad, cp, hcv, had, hlc⟩ | ⟨h0, hcv⟩
    · have hb := run_bounds3 (P := P) (w := w) (isS := true) (len := len) (cap := cp) hl hg hm h1 h2 h3 (by omega)
      refine Out.mk (u := .slice (some (if m.toNat = (l.getD 0).toNat then ad else ad.add ((l.getD 0).toNat * sz))) (h.toNat - (l.getD 0).toNat) (m.toNat - (l.getD 0).toNat)) ?_ hk F ?_ hp0
      · simp [execOp, ho, hcv, Instr.sliceAt, Instr.slice, run_underlying hu, hb, szOf_sound hT hsz]
        split <;> rfl
      · refine ⟨_, _, rfl, fun c hc => by injection hc, fun hp => ?_, by omega⟩
        have e1 : ¬ m.toNat = (l.getD 0).toNat := by omega
        rw [if_neg e1, had h5, adr_add]
    · omega

/-- The parts of a literal. -/
theorem lay_sound {place place' : Nat → Option (Nat × Nat)} (hpl : ∀ i x, place i = some x → place' i = some x) {kk : List AC → Prop} : ∀ (ps : List (Nat × Operand)) (cs : List AC) (vs : Array Value), Fit E R s a w → LL s.nx cs → vs.size = cs.length → conL R cs vs 0 → lay s place kk ps cs →
    ∃ cs' vs', kk cs' ∧ Instr.fill place' vs (ps.map fun p => (p.1, a.eval p.2)) = some vs' ∧ LL s.nx cs' ∧ vs'.size = cs'.length ∧ conL R cs' vs' 0
  | [], cs, vs, F, hl, hs, hc, h => ⟨cs, vs, h, rfl, hl, hs, hc⟩
  | (i, x) :: r, cs, vs, F, hl, hs, hc, h => by
    simp only [lay] at h
    split at h <;> try exact h.elim
    rename_i off z hp
    obtain ⟨v, hk, hcv, hlv⟩ := onV_sound F h
    clear h
    have key : ∀ gs : List AC, cellsOfV v = some gs → gs.length = z → off + z ≤ cs.length → lay s place kk r (cs.take off ++ gs ++ cs.drop (off + gs.length)) →
        ∃ cs' vs', kk cs' ∧ Instr.fill place' vs (((i, x) :: r).map fun p => (p.1, a.eval p.2)) = some vs' ∧ LL s.nx cs' ∧ vs'.size = cs'.length ∧ conL R cs' vs' 0 := by
      intro gs hgs hz hle hk2
      obtain ⟨h1, h2, _⟩ := cellsOfV_sound hgs hcv
      obtain ⟨f1, f2⟩ := Great.foldl_set off (a.eval x).cells.toList 0 vs
      have hlen : (cs.take off ++ gs ++ cs.drop (off + gs.length)).length = cs.length := by simp; omega
      have hlt : (a.eval x).cells.size = z := by omega
      obtain ⟨cs', vs', g1, g2, g3⟩ := lay_sound hpl r (cs.take off ++ gs ++ cs.drop (off + gs.length)) ((a.eval x).cells.zipIdx.foldl (fun cs (x : Value × Nat) => cs.setIfInBounds (off + x.2) x.1) vs) F
        (((hl.take _).app (cellsOfV_lt hgs hlv)).app (hl.drop _)) (by rw [hlen, ← hs]; rw [← Array.foldl_toList]; simpa using f1) (by
          intro j y hj
          rw [Nat.zero_add, ← Array.foldl_toList]
          have := f2 j
          simp only [Nat.add_zero, Array.length_toList] at this
          rw [show (a.eval x).cells.zipIdx.toList = (a.eval x).cells.toList.zipIdx 0 by simp, this]
          rw [List.append_assoc, List.getElem?_append] at hj
          simp only [List.length_take, List.getElem?_append, List.getElem?_drop, Nat.min_eq_left (show off ≤ cs.length by omega)] at hj
          by_cases q1 : j < off
          · rw [if_neg (by omega)]
            rw [if_pos q1, List.getElem?_take, if_pos q1] at hj
            obtain ⟨v', hv', hc'⟩ := hc j y hj
            exact ⟨v', by rwa [Nat.zero_add] at hv', hc'⟩
          · rw [if_neg q1] at hj
            by_cases q2 : j - off < gs.length
            · rw [if_pos q2] at hj
              rw [if_pos (by omega)]
              obtain ⟨v', hv', hc'⟩ := h2 _ y hj
              exact ⟨v', by rw [Nat.zero_add] at hv'; simpa using hv', hc'⟩
            · rw [if_neg q2] at hj
              rw [if_neg (by omega)]
              obtain ⟨v', hv', hc'⟩ := hc _ y hj
              refine ⟨v', ?_, hc'⟩
              rw [Nat.zero_add] at hv'
              rw [show j = off + gs.length + (j - off - gs.length) by omega]; exact hv') hk2
      refine ⟨cs', vs', g1, ?_, g3⟩
      simp only [List.map_cons, Instr.fill, hpl _ _ hp]
      rw [if_neg (by simp; omega)]
      exact g2
    split at hk <;> try exact hk.elim
    · rename_i c
      obtain ⟨⟨h1, h2⟩, hk⟩ := hk
      rw [set_eq c cs off h2] at hk
      exact key [c] rfl (by simp [h1]) (by omega) (by simpa using hk)
    · rename_i gs
      obtain ⟨⟨h1, h2⟩, hk⟩ := hk
      rw [wrn_eq gs cs off (by omega)] at hk
      exact key gs rfl h1 h2 hk

theorem run_mapM_fields (fields : Array Field) (h : ∀ f ∈ fields.toList, (P.info? f.type).isSome = true) (w : World) :
    (fields.mapM fun f => Prod.mk f.offset <$> sizeOf f.type : Sem (Array (Nat × Nat))).run P w = .ok (fields.map fun f => (f.offset, P.cellsOf f.type)) w := by
  rw [Array.mapM_eq_mapM_toList]
  have key : ∀ l : List Field, (∀ f ∈ l, (P.info? f.type).isSome = true) → (l.mapM fun f => Prod.mk f.offset <$> sizeOf f.type : Sem (List (Nat × Nat))).run P w = .ok (l.map fun f => (f.offset, P.cellsOf f.type)) w := by
    intro l hl
    induction l with
    | nil => rfl
    | cons f r ih =>
      have hf := hl f (by simp)
      obtain ⟨x, hx⟩ := Option.isSome_iff_exists.1 hf
      have ih := ih (fun g hg => hl g (by simp [hg]))
      rw [List.mapM_cons]
      have hsz : (sizeOf f.type).run P w = .ok (P.cellsOf f.type) w := by simp [sizeOf, typeInfo, hx, Program.cellsOf]
      simp only [Sem.run_bind, Sem.run_map, ih, hsz, Result.andThen_ok, Sem.run_pure, List.map_cons]
  rw [Sem.run_map, key fields.toList h]
  simp only [Result.andThen_ok]
  rw [← Array.toList_map, Array.toArray_toList]

theorem s_build (hT : TOk P T) {t : Nat} {ps : Array (Nat × Operand)} (ho : o.op = .build t ps) (F : Fit E R s a w) (h : stepA T md s (.build t ps) k) : Out P E a w o k := by
  simp only [stepA, AS.on_eq] at h
  split at h <;> try exact h.elim
  · rename_i fs sz b z cc hq
    have hI := hT _ _ hq
    obtain ⟨fields, hu, hfs, hfi⟩ := hI.d
    obtain ⟨z0, hz, hzs, hzc, hza⟩ := hI.zeroR w
    obtain ⟨cs', vs', g1, g2, g3, g4, g5⟩ := lay_sound (place' := fun i => (fields.map fun f => (f.offset, P.cellsOf f.type))[i]?) (by
      intro i x hx
      cases hq : fs[i]? with
      | none => simp [hq] at hx
      | some p =>
        obtain ⟨o, ft⟩ := p
        simp only [hq] at hx
        cases hz : szOf T ft with
        | none => simp [hz] at hx
        | some q =>
          simp only [hz, Option.map_some, Option.some.injEq] at hx
          subst hx
          have hc : P.cellsOf ft = q := by
            rw [szOf_eq] at hz
            cases hti : T ft with
            | none => simp [hti] at hz
            | some ii =>
              simp only [hti, Option.map_some, Option.some.injEq] at hz
              obtain ⟨xx, _, e1, e2, _⟩ := (hT _ _ hti).inf
              simp [Program.cellsOf, e1, e2, hz]
          rw [← hfs, List.getElem?_map] at hq
          cases hfl : fields.toList[i]? with
          | none => simp [hfl] at hq
          | some fl =>
            simp only [hfl, Option.map_some, Option.some.injEq, Prod.mk.injEq] at hq
            have : fields[i]? = some fl := by simpa using hfl
            simp [this, hq.1, hq.2, hc]) ps.toList _ _ F (hI.zlt _) hzs (hzc R) h
    refine Out.mk (u := .agg vs') ?_ g1 F ⟨_, rfl, g4, g5⟩ g3
    have hm := run_mapM_fields (P := P) fields (by
      intro f hf
      have := hfi (f.offset, f.type) (by rw [← hfs]; exact List.mem_map.2 ⟨f, hf, rfl⟩)
      exact this) w
    simp [execOp, ho, Instr.build, hz, run_underlying hu, hm]
    simp at g2
    simp [g2]
  · rename_i n e sz b z cc hq
    have hI := hT _ _ hq
    have hu : P.underlying t = some (.array n e) := hI.d
    obtain ⟨z0, hz, hzs, hzc, hza⟩ := hI.zeroR w
    split at h <;> try exact h.elim
    rename_i w0 hw0
    obtain ⟨cs', vs', g1, g2, g3, g4, g5⟩ := lay_sound (place' := fun i => some (i * w0, w0)) (fun _ _ h => h) ps.toList _ _ F (hI.zlt _) hzs (hzc R) h
    refine Out.mk (u := .agg vs') ?_ g1 F ⟨_, rfl, g4, g5⟩ g3
    have : (ps.map fun p => (p.1, a.eval p.2)).toList = ps.toList.map fun p => (p.1, a.eval p.2) := by simp
    simp [execOp, ho, Instr.build, hz, run_underlying hu, szOf_sound hT hw0]
    simp [g2]

end Go.AH

/-
  The steps of A3 are what the machine does: slices made and grown; all steps together.
-/
namespace Go.AH
open Go.RowKit

variable {P : Program} {T : Nat → Option TI} {md : Bool} {E : Env} {R : Ren} {s : AS} {a : Act} {w : World} {o : Oper} {k : AV → AS → Prop}

theorem rep_get (z : List AC) (hz : 0 < z.length) : ∀ (n j : Nat), (rep n z)[j]? = if j < n * z.length then z[j % z.length]? else none
  | 0, j => by simp [rep]
  | n + 1, j => by
    rw [rep, List.getElem?_append]
    by_cases h : j < z.length
    · rw [if_pos h, if_pos (by rw [Nat.add_mul]; omega), Nat.mod_eq_of_lt h]
    · rw [if_neg h, rep_get z hz n]
      have : j - z.length < n * z.length ↔ j < (n + 1) * z.length := by rw [Nat.add_mul]; omega
      simp only [this]
      rw [Nat.mod_eq_sub_mod (by omega : j ≥ z.length)]
theorem rep_len (z : List AC) : ∀ n, (rep n z).length = n * z.length
  | 0 => by simp [rep]
  | n + 1 => by rw [rep, List.length_append, rep_len z n, Nat.add_mul]; omega
theorem rep_lt {n : Nat} {z : List AC} (h : LL n z) : ∀ m, LL n (rep m z)
  | 0 => by intro x hx; cases hx
  | m + 1 => h.app (rep_lt h m)

theorem s_buildSlice (hT : TOk P T) {t len : Nat} {ps : Array (Nat × Operand)} (ho : o.op = .buildSlice t len ps) (F : Fit E R s a w) (h : stepA T md s (.buildSlice t len ps) k) : Out P E a w o k := by
  simp only [stepA, AS.on_eq] at h
  split at h <;> try exact h.elim
  rename_i e sz b z cc hq
  have hu : P.underlying t = some (.slice e) := (hT _ _ hq).d
  split at h <;> try exact h.elim
  rename_i i hi
  have hI := hT _ _ hi
  obtain ⟨⟨hG, h1, h2, h3⟩, h⟩ := h
  obtain ⟨z0, hz, hzs, hzc, hza⟩ := hI.zeroR w
  have hpos : 0 < i.zero.length := by omega
  have hzz : z0.cells.size = i.size := by omega
  obtain ⟨cs', vs', g1, g2, g3, g4, g5⟩ := lay_sound (place' := fun j => some (j * i.size, i.size)) (fun _ _ h => h) ps.toList (rep len i.zero) ((Array.range (len * i.size)).map (z0.cells[· % z0.cells.size]!)) F
    (rep_lt (hI.zlt _) len) (by simp [rep_len, h2]) (by
      intro j x hj
      rw [rep_get _ hpos] at hj
      split at hj
      · rename_i hlt
        obtain ⟨v, hv, hc⟩ := hzc R (j % i.zero.length) x hj
        refine ⟨v, ?_, hc⟩
        rw [Nat.zero_add] at hv ⊢
        rw [Array.getElem?_map, Array.getElem?_range, if_pos (by rw [← h2]; exact hlt)]
        simp only [Option.map_some, hzs]
        rw [getElem!_def, hv]
      · cases hj) h
  refine ⟨.value (.slice (some ⟨w.heap.size, 0, none⟩) len len), w.alloc (.cells vs' e), _, R.set s.nx w.heap.size 0 0, _, _, ?_, .inl rfl, g1, F.new hG g4 g5 g3 e, ?_, .inl (Nat.lt_succ_self _)⟩
  · have hle : ¬ (len * i.size > 2 ^ 24) := by omega
    have g2' := g2
    simp only [hzz] at g2'
    have hps : (ps.map fun (i, x) => (i, a.eval x)).toList = ps.toList.map fun p => (p.1, a.eval p.2) := by simp
    by_cases hl0 : len * i.size = 0
    · have hr : (Array.range (len * i.size)).map (fun x => (#[] : Array Value)[x % (#[] : Array Value).size]!) = (Array.range (len * i.size)).map (z0.cells[· % i.size]!) := by
        rw [hl0]; simp
      unfold execOp Instr.buildSlice
      simp only [ho, Sem.run_bind, run_underlying hu, Result.andThen_ok, hI.size, if_neg hle, if_pos hl0, Sem.run_pure, hps, hr, g2']
      simp [newRow]
    · unfold execOp Instr.buildSlice
      simp only [ho, Sem.run_bind, run_underlying hu, Result.andThen_ok, hI.size, if_neg hle, if_neg hl0, hz, Sem.run_pure, hps, hzz, g2']
      simp [newRow]
  · exact ⟨_, len, rfl, by simp, by simp [Ren.adr, Ren.set], Nat.le_refl _⟩

theorem s_makeSlice (hT : TOk P T) {t : Nat} {x y : Operand} (ho : o.op = .makeSlice t x y) (F : Fit E R s a w) (h : stepA T md s (.makeSlice t x y) k) : Out P E a w o k := by
  simp only [stepA, AS.on_eq] at h
  obtain ⟨p, hA, hc, hp0⟩ := onC_sound F h
  clear h
  obtain ⟨q, hk, hd, hq0⟩ := onC_sound F hA
  clear hA
  split at hk <;> try exact hk.elim
  rename_i kl l kc c e sz b z cc hq
  have hu : P.underlying t = some (.slice e) := (hT _ _ hq).d
  split at hk <;> try exact hk.elim
  rename_i i hi
  have hI := hT _ _ hi
  obtain ⟨⟨hG, h1, h2, h3, h4, h5, h6⟩, hk⟩ := hk
  obtain ⟨inf, z0, hinf, e1, e2, hz0, hzs, hzc, _, _⟩ := hI.inf
  have hpos : 0 < i.zero.length := by omega
  simp only [conC] at hc hd
  have hr := run_make (P := P) w t e inf z0 hu hinf hz0 kl kc l c h3 (by omega) (by rw [e2]; exact h5) h6
  refine ⟨.value (.slice (some ⟨w.heap.size, 0, none⟩) l.toNat c.toNat), w.alloc (.cells (madeCells z0.cells (c.toNat * inf.size)) e), _, R.set s.nx w.heap.size 0 0, _, _, ?_, .inl rfl, hk, F.new (cs := rep c.toNat i.zero) hG (by rw [size_madeCells, rep_len, h2, e1]) ?_ (rep_lt (hI.zlt _) _) e, ?_, .inl (Nat.lt_succ_self _)⟩
  · simp [execOp, ho, hc, hd, hr]
  · intro j v hj
    rw [rep_get _ hpos] at hj
    split at hj
    · rename_i hlt
      obtain ⟨u, hu, hcu⟩ := hzc R (j % i.zero.length) v hj
      refine ⟨u, ?_, hcu⟩
      rw [Nat.zero_add] at hu ⊢
      unfold madeCells
      rw [Array.getElem?_map, Array.getElem?_range, if_pos (by rw [e1, ← h2]; exact hlt)]
      simp only [Option.map_some]
      rw [hzs, getElem!_def, hu]
    · cases hj
  · exact ⟨_, c.toNat, rfl, by simp, by simp [Ren.adr, Ren.set], by omega⟩

theorem s_len (hT : TOk P T) {t : Nat} {x : Operand} {c : Call} (hc0 : c = { callee := .builtin .len, args := #[x], argTypes := #[t] }) (ho : o.op = .call c) (F : Fit E R s a w) (h : stepA T md s (.call c) k) : Out P E a w o k := by
  subst hc0
  simp only [stepA, AS.on_eq] at h
  obtain ⟨p, hk, hc, hp0⟩ := onV_sound F h
  clear h
  split at hk <;> try exact hk.elim
  · rename_i id off n cap e sz b z cc hq
    have hu : P.underlying t = some (.slice e) := (hT _ _ hq).d
    obtain ⟨ad, cp, hcv, _⟩ := hc
    exact Out.mk (u := .int .i64 n) (by simp [execOp, ho, resolve, invoke, builtin, Builtin.len_, hcv, run_underlying hu, goInt]) hk F rfl trivial
  · rename_i id n e sz b z cc hq
    have hu : P.underlying t = some (.slice e) := (hT _ _ hq).d
    obtain ⟨hcv, _⟩ := hc
    exact Out.mk (u := .int .i64 n) (by simp [execOp, ho, resolve, invoke, builtin, Builtin.len_, hcv, run_underlying hu, goInt]) hk F rfl trivial
  · rename_i e sz b z cc hq
    have hu : P.underlying t = some (.slice e) := (hT _ _ hq).d
    simp only [conV, conC] at hc
    exact Out.mk (u := .int .i64 0) (by simp [execOp, ho, resolve, invoke, builtin, Builtin.len_, hc, run_underlying hu, goInt]) hk F rfl trivial
  · rename_i bs sz b z cc hq
    have hu : P.underlying t = some .string := (hT _ _ hq).d
    simp only [conV, conC] at hc
    exact Out.mk (u := .int .i64 bs.size) (by simp [execOp, ho, resolve, invoke, builtin, Builtin.len_, hc, run_underlying hu, goInt]) hk F rfl trivial
  · rename_i id off n e sz b z cc hq
    have hu : P.underlying t = some (.slice e) := (hT _ _ hq).d
    rcases hc with ⟨ad, cp, hcv, _⟩ | ⟨h0, hcv⟩
    · exact Out.mk (u := .int .i64 n) (by simp [execOp, ho, resolve, invoke, builtin, Builtin.len_, hcv, run_underlying hu, goInt]) hk F rfl trivial
    · subst h0
      exact Out.mk (u := .int .i64 (0 : Nat)) (by simp [execOp, ho, resolve, invoke, builtin, Builtin.len_, hcv, run_underlying hu, goInt]) hk F rfl trivial
  · rename_i id off n cp z e zz b zzz cc hq
    have hu : P.underlying t = some (.slice e) := (hT _ _ hq).d
    obtain ⟨hcv, _⟩ := hc
    exact Out.mk (u := .int .i64 n) (by simp [execOp, ho, resolve, invoke, builtin, Builtin.len_, hcv, run_underlying hu, goInt]) hk F rfl trivial

theorem s_min {x y : Operand} {ts : Array TypeId} {c : Call} (hc0 : c = { callee := .builtin .min, args := #[x, y], argTypes := ts }) (ho : o.op = .call c) (F : Fit E R s a w) (h : stepA T md s (.call c) k) : Out P E a w o k := by
  subst hc0
  simp only [stepA, AS.on_eq] at h
  obtain ⟨p, hA, hc, hp0⟩ := onC_sound F h
  clear h
  obtain ⟨q, hk, hd, hq0⟩ := onC_sound F hA
  clear hA
  split at hk <;> try exact hk.elim
  rename_i k1 x1 k2 y1
  obtain ⟨rfl, hk⟩ := hk
  simp only [conC] at hc hd
  refine Out.mk (u := .int k1 (min x1 y1)) ?_ hk F rfl trivial
  simp [execOp, ho, resolve, invoke, builtin, Builtin.min_, Builtin.min2, hc, hd]
  rw [Int.min_def]; split <;> split <;> omega
theorem s_max {x y : Operand} {ts : Array TypeId} {c : Call} (hc0 : c = { callee := .builtin .max, args := #[x, y], argTypes := ts }) (ho : o.op = .call c) (F : Fit E R s a w) (h : stepA T md s (.call c) k) : Out P E a w o k := by
  subst hc0
  simp only [stepA, AS.on_eq] at h
  obtain ⟨p, hA, hc, hp0⟩ := onC_sound F h
  clear h
  obtain ⟨q, hk, hd, hq0⟩ := onC_sound F hA
  clear hA
  split at hk <;> try exact hk.elim
  rename_i k1 x1 k2 y1
  obtain ⟨rfl, hk⟩ := hk
  simp only [conC] at hc hd
  refine Out.mk (u := .int k1 (max x1 y1)) ?_ hk F rfl trivial
  simp [execOp, ho, resolve, invoke, builtin, Builtin.max_, Builtin.max2, hc, hd]
  rw [Int.max_def]; split <;> split <;> omega

theorem newsOf_sound (P : Program) {q : AC} {z : Nat} {kk : Nat → List AC → Prop} {u : Value} (F : Fit E R s a w) (hc : conC R q u) (h : stepA.newsOf s q z kk) :
    ∃ m nw, kk m nw ∧ LL s.nx nw ∧ nw.length = m * z ∧ ((u = .slice none 0 0 ∧ m = 0) ∨ ∃ ad c, ∃ news : List Value, u = .slice (some ad) m c ∧ news.length = m * z ∧ (∀ j v, news[j]? = some v → w.cell? (ad.add j) = some v) ∧
      conL R nw news.toArray 0 ∧ ∀ v ∈ news, v.oneCell' = true) := by
  cases q <;> simp only [stepA.newsOf] at h <;> try exact h.elim
  · rename_i id off len cap
    obtain ⟨b, cs, ⟨h1, hk⟩, hid, hb, hB, hbl⟩ := onCells_sound F h
    obtain ⟨ad, cp, hv, _, had, _⟩ := hc
    obtain ⟨vs, e1, _, e2, e3, e4⟩ := run_cells (P := P) hB hb off (len * z) h1
    refine ⟨len, _, hk, ((ABlk.lt_cells hbl hb).drop _).take _, by simp; omega, .inr ⟨ad, cp, vs, hv, e1, ?_, e3, e4⟩⟩
    intro j v hj
    by_cases hl : 0 < len
    · rw [had hl]; exact e2 j v hj
    · have : vs = [] := List.eq_nil_of_length_eq_zero (by rw [e1]; have : len = 0 := by omega
                                                          simp [this])
      subst this; simp at hj
  · rename_i id len
    split at h <;> try exact h.elim
    rename_i e' z' cs hlk
    obtain ⟨h1, hk⟩ := h
    have hB := F.hp.blk _ _ hlk
    have hbl := (F.wf.hp _ _ hlk).2
    have hd0 : R.δ id = 0 := by obtain ⟨_, _, hd0, _⟩ := hB; exact hd0
    obtain ⟨vs, e1, _, e2, e3, e4⟩ := run_cells (P := P) hB (b := .row e' z' cs) rfl 0 (len * z) (by omega)
    refine ⟨len, _, hk, LL.take hbl _, by simp; omega, .inr ⟨⟨R.ρ id, 0, none⟩, R.κ id, vs, hc.1, e1, ?_, by simpa using e3, e4⟩⟩
    intro j v hj
    have := e2 j v hj
    rwa [show R.adr id 0 = ⟨R.ρ id, 0, none⟩ by simp [Ren.adr, hd0]] at this
  · exact ⟨0, [], h, fun x hx => (List.not_mem_nil hx).elim, by simp, .inl ⟨hc, rfl⟩⟩
  · rename_i id off len
    obtain ⟨b, cs, ⟨h1, hk⟩, hid, hb, hB, hbl⟩ := onCells_sound F h
    rcases hc with ⟨ad, cp, hv, had, _⟩ | ⟨h0, hv⟩
    · obtain ⟨vs, e1, _, e2, e3, e4⟩ := run_cells (P := P) hB hb off (len * z) h1
      refine ⟨len, _, hk, ((ABlk.lt_cells hbl hb).drop _).take _, by simp; omega, .inr ⟨ad, cp, vs, hv, e1, ?_, e3, e4⟩⟩
      intro j v hj
      by_cases hl : 0 < len
      · rw [had hl]; exact e2 j v hj
      · have : vs = [] := List.eq_nil_of_length_eq_zero (by rw [e1]; have : len = 0 := by omega
                                                            simp [this])
        subst this; simp at hj
    · subst h0
      exact ⟨0, _, hk, ((ABlk.lt_cells hbl hb).drop _).take _, by simp, .inl ⟨hv, rfl⟩⟩
  · rename_i id off len c0 z'
    split at h <;> try exact h.elim
    rename_i e' z'' cs hlk
    obtain ⟨⟨rfl, h1⟩, hk⟩ := h
    have hB := F.hp.blk _ _ hlk
    have hbl := (F.wf.hp _ _ hlk).2
    have hd0 : R.δ id = 0 := by obtain ⟨_, _, hd0, _⟩ := hB; exact hd0
    obtain ⟨vs, e1, _, e2, e3, e4⟩ := run_cells (P := P) hB (b := .row e' z'' cs) rfl (off * z') (len * z') h1
    refine ⟨len, _, hk, (LL.drop hbl _).take _, by simp; omega, .inr ⟨⟨R.ρ id, off * z', none⟩, c0, vs, hc.1, e1, ?_, e3, e4⟩⟩
    intro j v hj
    have := e2 j v hj
    rwa [show R.adr id (off * z') = ⟨R.ρ id, off * z', none⟩ by simp [Ren.adr, hd0]] at this

/-- What a row's value owns, put among what is known. -/
theorem Fit.newRow {w' : World} {hp0 : List (Nat × ABlk)} {e z n : Nat} {v : Value} {xs : List Value} {cs : List AC} (F : Fit E R { s with hp := hp0 } a w') (hG : s.nx < GB) (hown : w'.ownsRow 0 e z v n xs) (hv : v ≠ .slice none 0 0)
    (hc : conL R cs xs.toArray 0) (hlen : cs.length = n * z) (hl : LL s.nx cs) (hbk : ∀ g, v.ownBlock = some g → (∀ j c, lk hp0 j = some c → g ≠ R.ρ j) ∧ (E.M g ∨ E.W.heap.size ≤ g)) :
    ∃ R', Fit E R' { s with hp := (s.nx, .row e z cs) :: hp0, nx := s.nx + 1 } a w' ∧ conC R' (.row s.nx n) v := by
  obtain ⟨hx, hcase⟩ := hown
  rcases hcase with ⟨h0, _⟩ | ⟨g, cap, cur, hve, _, hg, hnc, hcm, hcs, htk⟩
  · exact absurd h0 hv
  subst hve
  obtain ⟨hb1, hb2⟩ := hbk g rfl
  have hag := Ren.set_agree R s.nx g 0 cap hG
  have hf : lk hp0 s.nx = none := by
    cases hq : lk hp0 s.nx with
    | none => rfl
    | some b => have := F.nx _ _ hq; simp only at this; omega
  refine ⟨R.set s.nx g 0 cap, ?_, ?_⟩
  · refine (F.ren (m := s.nx + 1) hag (Ren.set_ok _ _ _ _ hG F.ok) (Nat.le_succ _) hG).add hf ?_ ?_ ?_ (.inl (Nat.lt_succ_self _)) (LL.mono hl (Nat.le_succ _))
    · refine ⟨cur, by rw [Ren.set_ρ]; exact hg, by simp, by rw [Ren.set_κ]; exact hcm, by rw [Ren.set_κ]; exact hcs, ?_, ?_⟩
      · rw [hlen, hcs]; exact Nat.mul_le_mul_right _ hnc
      · refine (conL.agree hag hl ?_)
        intro j x hj
        obtain ⟨u, hu, hcu⟩ := hc j x hj
        refine ⟨u, ?_, hcu⟩
        rw [Nat.zero_add] at hu ⊢
        rw [← htk] at hu
        simp only [List.getElem?_toArray, List.getElem?_take] at hu
        split at hu
        · simpa using hu
        · cases hu
    · intro _; rw [Ren.set_ρ]; exact hb2
    · intro j c hj _
      rw [Ren.set_ρ, (hag j (F.wf.hp j c hj).1).1]
      exact hb1 j c hj
  · exact ⟨by simp [Ren.set], by simpa [Ren.set] using hnc⟩

theorem conL.append {R : Ren} {cs ds : List AC} {vs us : List Value} (h : conL R cs vs.toArray 0) (k : conL R ds us.toArray 0) (hl : cs.length = vs.length) : conL R (cs ++ ds) (vs ++ us).toArray 0 := by
  intro j x hj
  rw [Nat.zero_add]
  simp only [List.getElem?_toArray, List.getElem?_append] at hj ⊢
  rw [← hl]
  split at hj
  · obtain ⟨v, hv, hc⟩ := h j x hj
    rename_i hlt
    refine ⟨v, ?_, hc⟩
    rw [if_pos hlt]
    rw [Nat.zero_add] at hv; simpa using hv
  · rename_i hlt
    obtain ⟨v, hv, hc⟩ := k _ x hj
    refine ⟨v, ?_, hc⟩
    rw [if_neg hlt]
    rw [Nat.zero_add] at hv; simpa using hv

/-- A row's cells are written, perhaps some behind those that are known. -/
theorem BRel.spliceX {id e z o : Nat} {cs gs : List AC} {vs : List Value} (hB : BRel R id w (.row e z cs)) (hl : vs.length = gs.length) (hc : conL R gs vs.toArray 0) (ho : o ≤ cs.length) (hn : o + gs.length ≤ R.κ id * z) :
    ∃ c, w.heap[R.ρ id]? = some (.cells c e (0, 0)) ∧ o + vs.length ≤ c.size ∧ R.δ id = 0 ∧ BRel R id (w.setRow (R.ρ id) (c.toList.take o ++ vs ++ c.toList.drop (o + vs.length)).toArray) (.row e z (cs.take o ++ gs ++ cs.drop (o + gs.length))) := by
  obtain ⟨c, h1, h2, h3, h4, h5, h6⟩ := hB
  refine ⟨c, h1, by omega, h2, _, setRow_heap _ _ _ _ _ _ h1, h2, h3, ?_, ?_, ?_⟩
  · simp; omega
  · simp; omega
  · intro j x hj
    simp only [Nat.zero_add, List.getElem?_toArray]
    rw [List.append_assoc, List.getElem?_append] at hj ⊢
    simp only [List.length_take, List.getElem?_append, List.getElem?_drop, hl, Array.length_toList] at hj ⊢
    have e1 : min o cs.length = o := by omega
    have e2 : min o c.size = o := by omega
    rw [e1] at hj; rw [e2]
    by_cases g1 : j < o
    · simp only [g1, if_true, List.getElem?_take] at hj ⊢
      obtain ⟨v, hv, hcv⟩ := h6 j x hj
      exact ⟨v, by rw [Nat.zero_add] at hv; simpa using hv, hcv⟩
    · simp only [g1, if_false] at hj ⊢
      by_cases g2 : j - o < gs.length
      · simp only [g2, if_true] at hj ⊢
        obtain ⟨v, hv, hcv⟩ := hc (j - o) x hj
        exact ⟨v, by simpa using hv, hcv⟩
      · simp only [g2, if_false] at hj ⊢
        obtain ⟨v, hv, hcv⟩ := h6 _ x hj
        exact ⟨v, by rw [Nat.zero_add] at hv; simpa using hv, hcv⟩
theorem zeroCells_con {R : Ren} {z : List AC} {zc : Array Value} (hz : 0 < z.length) (hzs : zc.size = z.length) (hc : ∀ R, conL R z zc 0) (n : Nat) : conL R (rep n z) (Builtin.zeroCells zc n).toList.toArray 0 := by
  intro j x hj
  rw [rep_get z hz] at hj
  split at hj
  · rename_i hlt
    obtain ⟨v, hv, hcv⟩ := hc R _ x hj
    refine ⟨v, ?_, hcv⟩
    have hm : j % z.length < z.length := Nat.mod_lt _ hz
    simp only [Nat.zero_add, Array.toArray_toList, Builtin.zeroCells, Array.getElem?_map] at hv ⊢
    rw [Array.getElem?_range, if_pos (by rw [hzs]; exact hlt)]
    simp only [Option.map_some, hzs]
    rw [getElem!_pos zc (j % z.length) (by omega)]
    rw [Array.getElem?_eq_getElem (by omega)] at hv
    exact hv
  · cases hj
theorem mulcast {n b : Nat} (h : (n : Int) * (b : Int) ≤ 140737488355328) : n * b ≤ 140737488355328 := by
  have : ((n * b : Nat) : Int) ≤ 140737488355328 := by rw [Int.natCast_mul]; exact h
  omega
theorem maxcast {n : Nat} (h : n ≤ 9223372036854775807) : n ≤ maxLen := h

theorem drew_alloc_grown (w : World) (o : Obj) : w.grownBy (w.drew.alloc o) none := ⟨rfl, rfl, rfl, by simp, fun k hk _ => Below.heap_alloc w.drew o k hk⟩

theorem s_append (hT : TOk P T) {x y : Operand} {t t' : TypeId} {c : Call} (hcal : c.callee = .builtin .append) (har : c.args.toList = [x, y]) (hat : c.argTypes.toList = [t, t']) (ho : o.op = .call c) (F : Fit E R s a w)
    (h : stepA T md s (.call c) k) : Out P E a w o k := by
  simp only [stepA, AS.on_eq, hcal, har, hat] at h
  split at h
  · rename_i kt' sz' by' ze' cm' hqt
    obtain ⟨p, hA, hc, hp0⟩ := onC_sound F h
    clear h
    obtain ⟨q, hk, hd, hq0⟩ := onC_sound F hA
    clear hA
    split at hk <;> try exact hk.elim
    rename_i id off len cp z kq n e zz b zzz cc hq
    have hu : P.underlying t = some (.slice e) := (hT _ _ hq).d
    have hu' : P.underlying t' = some (.int kt') := (hT _ _ hqt).d
    split at hk <;> try exact hk.elim
    rename_i i e'' z'' cs hi hlk
    obtain ⟨⟨hG, hsz, rfl, hzl, hn0, hcap, hcl0, h1, h2⟩, hk⟩ := hk
    obtain ⟨inf, z0, hinf, e1, e2, hz0, hzs, hzc, _, _⟩ := (hT _ _ hi).inf
    obtain ⟨hv, hkap, hle⟩ := hc
    simp only [conC, conV] at hd
    obtain ⟨m, rfl⟩ : ∃ m : Nat, n = m := ⟨n.toNat, by omega⟩
    rw [Int.toNat_natCast] at hk hcap h1 h2
    have hm0 : 0 < m := by omega
    have hB := F.hp.blk _ _ hlk
    have hd0 : R.δ id = 0 := by obtain ⟨_, _, hd0, _⟩ := hB; exact hd0
    obtain ⟨vs, f1, _, f2, f3, f4⟩ := run_cells (P := P) hB (b := .row e'' z'' cs) rfl (off * i.size) (len * i.size) hcl0
    have h1' : (len + m) * i.bytes ≤ 140737488355328 := mulcast h1
    have hmb : m * i.bytes ≤ 281474976710656 := by
      have := Nat.mul_le_mul_right i.bytes (show m ≤ len + m by omega)
      omega
    have hold := run_firstCells_some (P := P) w.drew inf.size len ⟨R.ρ id, off * i.size, none⟩ len cp vs (by rw [f1, e1]) (by
      intro j v hj
      have := f2 j v hj
      rw [show R.adr id (off * i.size) = ⟨R.ρ id, off * i.size, none⟩ by simp [Ren.adr, hd0]] at this
      simpa using this)
    have hr := Lib.run_append_grow_zeros (P := P) w t t' o.type e inf z0 kq kt' hu hu' hinf hz0 (some ⟨R.ρ id, off * i.size, none⟩) len cp vs hold m hm0 (by omega) hcap (by omega) (by rw [e2]; exact hmb) (by rw [e2]; exact growslice_fits hcap h1')
    have hzs' : z0.cells.size = i.size := by omega
    have hcon := zeroCells_con (R := R) (by omega) hzs hzc m
    have hgc := grownCap_ge w (len + m) cp e
    have hgm := grownCap_le_maxLen w (len + m) cp e (show len + m ≤ maxLen from h2)
    have hzz : (Builtin.zeroCells z0.cells m).toList.length = m * i.size := by rw [Array.length_toList, size_zeroCells, hzs']
    have har' : c.args = #[x, y] := by rw [← har, Array.toArray_toList]
    have hat' : c.argTypes = #[t, t'] := by rw [← hat, Array.toArray_toList]
    have hclt := (F.wf.hp _ _ hlk).2
    obtain ⟨R', F', hv'⟩ := (F.keep0 (drew_alloc_grown w (.cells (vs.toArray ++ Builtin.zeroCells z0.cells m ++ Builtin.zeroCells z0.cells (grownCap w (len + m) cp e - (len + m))) e))).newRow (hp0 := s.hp) (n := len + m) (e := e) (z := i.size) (xs := vs ++ (Builtin.zeroCells z0.cells m).toList)
      (v := .slice (some ⟨w.heap.size, 0, none⟩) (len + m) (grownCap w (len + m) cp e)) (cs := (cs.drop (off * i.size)).take (len * i.size) ++ rep m i.zero) hG
      ⟨by rw [List.length_append, hzz, f1, Nat.add_mul], .inr ⟨w.heap.size, _, _, rfl, Nat.zero_le _, World.alloc_heap_new w.drew _, hgc, hgm, by
        simp only [Array.size_append, List.size_toArray, f1, size_zeroCells, hzs']
        rw [← Nat.add_mul, ← Nat.add_mul]; congr 1; omega, by
        simp only [Array.toList_append, List.append_assoc]
        rw [← List.append_assoc, List.take_append_of_le_length (by rw [List.length_append, hzz, f1, Nat.add_mul]; exact Nat.le_refl _), List.take_of_length_le (by rw [List.length_append, hzz, f1, Nat.add_mul]; exact Nat.le_refl _)]⟩⟩ (by simp)
      (f3.append (by simpa using hcon) (by simp [f1]; omega)) (by rw [List.length_append, rep_len, hzl, List.length_take, List.length_drop, Nat.add_mul]; congr 1; omega) (((LL.drop hclt _).take _).app (rep_lt ((hT _ _ hi).zlt _) m)) (by
        intro g hg
        simp only [Value.ownBlock, Option.some.injEq] at hg
        subst hg
        exact ⟨fun j c hj e => absurd (F.hp.blk j c hj).lt (by omega), .inr F.fr.size⟩)
    exact ⟨_, _, _, R', _, _, by simp [execOp, ho, resolve, hcal, har', hat', invoke, builtin, hv, hd, hr], .inl rfl, hk, F', hv', .inl (Nat.lt_succ_self _)⟩
  obtain ⟨rfl, h⟩ := h
  obtain ⟨p, hA, hc, hp0⟩ := onC_sound F h
  clear h
  obtain ⟨q, hk, hd, hq0⟩ := onC_sound F hA
  clear hA
  split at hk <;> try exact hk.elim
  rename_i e sz b z cc hq
  have hu : P.underlying t = some (.slice e) := (hT _ _ hq).d
  split at hk <;> try exact hk.elim
  rename_i i hi
  obtain ⟨⟨hsz, hzl⟩, hk⟩ := hk
  obtain ⟨inf, z0, hinf, e1, e2, hz0, hzs, hzc, _, _⟩ := (hT _ _ hi).inf
  obtain ⟨m, nw, hk2, hnl, hnlen, hcase⟩ := newsOf_sound P F hd hk
  clear hk
  have hk := hk2
  clear hk2
  have har' : c.args = #[x, y] := by rw [← har, Array.toArray_toList]
  have hat' : c.argTypes = #[t, t] := by rw [← hat, Array.toArray_toList]
  have hrun : ∀ (v : Value) (w' : World), (Builtin.append_ #[t, t] o.type #[a.eval x, a.eval y]).run P w = .ok v w' → (execOp a.eval o).run P w = .ok (.value v) w' := by
    intro v w' hr
    simp [execOp, ho, resolve, hcal, har', hat', invoke, builtin, hr]
  have hzs' : z0.cells.size = i.size := by omega
  -- a row that is the activation's own, or none
  have own : ∀ (n : Nat) (v : Value) (xs : List Value) (hp0 : List (Nat × ABlk)) (cs : List AC), a.eval x = v → w.ownsRow 0 e i.size v n xs → s.nx < GB → ((n + m : Nat) : Int) * i.bytes ≤ 140737488355328 → n + m ≤ 9223372036854775807 →
      (v = .slice none 0 0 → 0 < m) → (∀ w', w.grownBy w' v.ownBlock → Fit E R { s with hp := hp0 } a w') → conL R cs xs.toArray 0 → cs.length = n * i.size → LL s.nx cs →
      (∀ g, v.ownBlock = some g → (∀ j c, lk hp0 j = some c → g ≠ R.ρ j) ∧ (E.M g ∨ E.W.heap.size ≤ g)) → (∀ j c, lk hp0 j = some c → R.ρ j < w.heap.size) →
      k (.c (.row s.nx (n + m))) { s with hp := (s.nx, .row e i.size (cs ++ nw)) :: hp0, nx := s.nx + 1 } → Out P E a w o k := by
    intro n v xs hp0 cs hv hown hG hby hmx hnn hF hcx hcl hll hbk hlt hkk
    have hmx' : n + m ≤ maxLen := hmx
    have hby' : (n + m) * i.bytes ≤ 140737488355328 := mulcast hby
    have fin : ∀ (v' : Value) (w' : World) (news : List Value), (Builtin.append_ #[t, t] o.type #[v, a.eval y]).run P w = .ok v' w' → w'.ownsRow 0 e i.size v' (n + m) (xs ++ news) → w.grownBy w' v.ownBlock →
        v' ≠ .slice none 0 0 → (v'.ownBlock = v.ownBlock ∨ v'.ownBlock = some w.heap.size) → conL R nw news.toArray 0 → Out P E a w o k := by
      intro v' w' news hr ho' hg' hne hob hcn
      have hxl : xs.length = n * i.size := hown.1
      obtain ⟨R', F', hv'⟩ := (hF w' hg').newRow hG ho' hne (hcx.append hcn (by omega)) (by simp [hcl, hnlen, Nat.add_mul]) (hll.app hnl) (by
        intro g hgg
        rcases hob with h1 | h1
        · exact hbk g (by rw [← h1]; exact hgg)
        · rw [h1] at hgg; injection hgg with hgg; subst hgg
          exact ⟨fun j c hj e => absurd (hlt j c hj) (by omega), .inr F.fr.size⟩)
      exact ⟨_, w', v', R', _, _, hrun v' w' (by rw [hv]; exact hr), .inl rfl, hkk, F', hv', .inl (Nat.lt_succ_self _)⟩
    rcases hcase with ⟨hn, hm0⟩ | ⟨ad, cp, news, hy, hnl1, hnl2, hnl3, hnl4⟩
    · subst hm0
      have hr := run_append_owned_none (P := P) (w := w) 0 t o.type e inf i.size hu hinf v n xs hown
      refine fin v w [] (by rw [hn]; exact hr) (by simpa using hown) (World.grownBy.refl w _) (fun e => absurd (hnn e) (by omega)) (.inl rfl) ?_
      rw [show nw = [] from List.eq_nil_of_length_eq_zero (by simpa using hnlen)]
      intro j x hj; simp at hj
    · obtain ⟨v', w', hr, h2, h3, h4, h5⟩ := run_append_own_at (P := P) w 0 t o.type e inf z0 i.size i.bytes hu hinf hz0 e1 e2 hzs' hsz v n xs hown ad m cp news hnl1 hnl2 hnl4 hmx' hby' (Nat.zero_le _)
      refine fin v' w' news (by rw [hy]; exact hr) h2 h3 ?_ h5 hnl3
      intro e
      obtain ⟨e1, e2⟩ := h4.1 e
      exact absurd (hnn e1) (by omega)
  split at hk <;> try exact hk.elim
  · -- nil
    obtain ⟨⟨hG, h1, h2⟩, hk0, hk1⟩ := hk
    simp only [conC] at hc
    by_cases hm : m = 0
    · rcases hcase with ⟨hn, _⟩ | ⟨ad, cp, news, hy, hnl1, hnl2, hnl3, hnl4⟩
      · have hr := run_append_owned_none (P := P) (w := w) 0 t o.type e inf i.size hu hinf (.slice none 0 0) 0 [] (w.ownsRow_nil 0 e i.size)
        exact Out.mk (hrun _ _ (by rw [hc, hn]; exact hr)) (hk0 hm) F rfl trivial
      · obtain ⟨v', w', hr, _, h3, h4, _⟩ := run_append_own_at (P := P) w 0 t o.type e inf z0 i.size i.bytes hu hinf hz0 e1 e2 hzs' hsz (.slice none 0 0) 0 [] (w.ownsRow_nil 0 e i.size) ad m cp news hnl1 hnl2 hnl4
          (by rw [Nat.zero_add]; exact maxcast h2) (by rw [Nat.zero_add]; exact mulcast h1) (Nat.zero_le _)
        obtain rfl := h4.2 ⟨rfl, hm⟩
        exact ⟨_, w', _, R, s, _, hrun _ _ (by rw [hc, hy]; exact hr), .inl rfl, hk0 hm, F.keep0 h3, rfl, trivial⟩
    · refine own 0 (.slice none 0 0) [] s.hp [] hc (w.ownsRow_nil 0 e i.size) hG (by rw [Nat.zero_add]; exact h1) (by omega) (fun _ => by omega) (fun w' hg => F.keep0 hg) (by intro j x hj; simp at hj) (by simp) (fun x hx => (List.not_mem_nil hx).elim)
        (by intro g hg; simp [Value.ownBlock] at hg) (fun j c hj => (F.hp.blk j c hj).lt) ?_
      rw [Nat.zero_add]
      simpa using hk1 (by omega)
  · -- a row
    rename_i id len
    split at hk <;> try exact hk.elim
    rename_i e' z' cs hlk
    obtain ⟨⟨hG, rfl, rfl, hlen, h1, h2⟩, hk⟩ := hk
    obtain ⟨hv, hle⟩ := hc
    have hB := F.hp.blk _ _ hlk
    obtain ⟨cc, hh, hd0, hcm, hcs, hcl, hcc⟩ := (show BRel R id w (.row e' i.size cs) from hB)
    refine own len _ (cc.toList.take (len * i.size)) (del s.hp id) cs hv ⟨by simp; omega, .inr ⟨R.ρ id, R.κ id, cc, rfl, Nat.zero_le _, hh, hle, hcm, hcs, rfl⟩⟩ hG h1 h2 (by simp) ?_ ?_ hlen (F.wf.hp _ _ hlk).2 ?_ ?_ hk
    · intro w' hg
      exact F.keep hlk rfl (by simpa [Value.ownBlock] using hg) (cells_notdf hB (b := .row e' i.size cs) rfl)
    · intro j y hj
      obtain ⟨u, hu', hcu⟩ := hcc j y hj
      refine ⟨u, ?_, hcu⟩
      have := (List.getElem?_eq_some_iff.1 hj).1
      rw [Nat.zero_add] at hu' ⊢
      simp only [List.getElem?_toArray, List.getElem?_take]
      rw [if_pos (by omega)]; simpa using hu'
    · intro g hg
      simp only [Value.ownBlock, Option.some.injEq] at hg
      subst hg
      refine ⟨?_, F.wr id _ hlk rfl⟩
      intro j c hj
      simp only [lk_del] at hj
      split at hj
      · cases hj
      · rename_i hne; exact F.hp.inj id j _ c hlk hj hne rfl
    · intro j c hj
      simp only [lk_del] at hj
      split at hj
      · cases hj
      · exact (F.hp.blk j c hj).lt
  · -- a slice that is full
    rename_i id off len c0
    obtain ⟨b', cs, ⟨⟨hG, h0, h1, h2, h3⟩, hk3⟩, hid, hb, hB, hbl⟩ := onCells_sound F hk
    obtain ⟨ad0, cp0, hv, hcap, had0, hle⟩ := hc
    obtain rfl := hcap c0 rfl
    obtain ⟨vs, f1, _, f2, f3, f4⟩ := run_cells (P := P) hB hb off (len * i.size) h1
    rcases hcase with ⟨_, hm0⟩ | ⟨ad, cp, news, hy, hnl1, hnl2, hnl3, hnl4⟩
    · omega
    have h2' : (len + m) * i.bytes ≤ 140737488355328 := mulcast h2
    have hr := run_append_grow (P := P) w t o.type e inf z0 hu hinf hz0 ad0 len cp0 vs (by rw [f1, e1]) (by
      intro j v hj
      by_cases hl : 0 < len
      · rw [had0 hl]; exact f2 j v hj
      · have : vs = [] := List.eq_nil_of_length_eq_zero (by rw [f1]; have : len = 0 := by omega
                                                            simp [this])
        subst this; simp at hj) ad m cp news (by rw [hnl1, e1]) hnl2 h0 (by omega) (by rw [e2]; exact growslice_fits h0 h2')
    have hgc := grownCap_ge w (len + m) cp0 e
    have hgm := grownCap_le_maxLen w (len + m) cp0 e (show len + m ≤ maxLen from h3)
    have hcl := (ABlk.lt_cells hbl hb)
    obtain ⟨R', F', hv'⟩ := (F.keep0 (drew_alloc_grown w (.cells (vs.toArray ++ news.toArray ++ Builtin.zeroCells z0.cells (grownCap w (len + m) cp0 e - (len + m))) e))).newRow (hp0 := s.hp) (n := len + m) (e := e) (z := i.size) (xs := vs ++ news)
      (v := .slice (some ⟨w.heap.size, 0, none⟩) (len + m) (grownCap w (len + m) cp0 e)) (cs := (cs.drop off).take (len * i.size) ++ nw) hG
      ⟨by simp [f1, hnl1, Nat.add_mul], .inr ⟨w.heap.size, _, _, rfl, Nat.zero_le _, World.alloc_heap_new w.drew _, hgc, hgm, by
        simp only [Array.size_append, List.size_toArray, f1, hnl1, size_zeroCells, hzs']
        rw [← Nat.add_mul, ← Nat.add_mul]; congr 1; omega, by
        simp only [Array.toList_append, List.append_assoc]
        rw [← List.append_assoc, List.take_append_of_le_length (by simp [f1, hnl1, Nat.add_mul]), List.take_of_length_le (by simp [f1, hnl1, Nat.add_mul])]⟩⟩ (by simp)
      (f3.append hnl3 (by simp [f1]; omega)) (by simp [hnlen, Nat.add_mul]; omega) (((hcl.drop _).take _).app hnl) (by
        intro g hg
        simp only [Value.ownBlock, Option.some.injEq] at hg
        subst hg
        exact ⟨fun j c hj e => absurd (F.hp.blk j c hj).lt (by omega), .inr F.fr.size⟩)
    exact ⟨_, _, _, R', _, _, hrun _ _ (by rw [hv, hy]; exact hr), .inl rfl, hk3, F', hv', .inl (Nat.lt_succ_self _)⟩
  · -- a part of a row whose capacity is known
    rename_i id off len cp zr
    split at hk <;> try exact hk.elim
    rename_i e' z' cs hlk
    obtain ⟨⟨rfl, rfl, rfl, hkn⟩, hk1, hk2⟩ := hk
    obtain ⟨hv, hkap, hle⟩ := hc
    have hB := F.hp.blk _ _ hlk
    have hclt := (F.wf.hp _ _ hlk).2
    have hd0 : R.δ id = 0 := by obtain ⟨_, _, hd0, _⟩ := hB; exact hd0
    by_cases hroom : len + m ≤ cp
    · have hfit : off * i.size + len * i.size + nw.length ≤ R.κ id * i.size := by
        rw [hnlen, ← hkap, ← Nat.add_mul, ← Nat.add_mul]
        exact Nat.mul_le_mul_right _ (by omega)
      rcases hcase with ⟨hn, hm0⟩ | ⟨ad, c1, news, hy, hnl1, hnl2, hnl3, hnl4⟩
      · subst hm0
        have hnw : nw = [] := List.eq_nil_of_length_eq_zero (by simpa using hnlen)
        subst hnw
        have hr : (Builtin.append_ #[t, t] o.type #[.slice (some ⟨R.ρ id, off * i.size, none⟩) len cp, .slice none 0 0]).run P w = .ok (.slice (some ⟨R.ρ id, off * i.size, none⟩) len cp) w := by
          simp [Builtin.append_, run_underlying hu, sizeOf, typeInfo, hinf, Builtin.lenOf, hle, Builtin.firstCells, storeCells]
        refine ⟨_, w, _, R, _, _, hrun _ _ (by rw [hv, hn]; exact hr), .inl rfl, hk1 hroom, F.hp_congr fun j => ?_, ⟨rfl, hkap, by omega⟩, hp0⟩
        rw [lk_up]
        split
        · rename_i e; subst e
          simp [hlk]
        · rfl
      · obtain ⟨cc, hh, hsz2, hd, hB'⟩ := BRel.spliceX hB (by omega) hnl3 hkn hfit
        have hst := run_storeCells_at P (R.ρ id) (off * i.size + len * i.size) e' news 0 cc w hh (by simpa using hsz2) hnl4
        have hf := run_firstCells_some (P := P) w inf.size m ad m c1 news (by rw [hnl1, e1]) hnl2
        rw [e1] at hf
        simp only [Nat.add_zero] at hst
        have hr : (Builtin.append_ #[t, t] o.type #[.slice (some ⟨R.ρ id, off * i.size, none⟩) len cp, .slice (some ad) m c1]).run P w = .ok (.slice (some ⟨R.ρ id, off * i.size, none⟩) (len + m) cp) (w.setRow (R.ρ id) (cc.toList.take (off * i.size + len * i.size) ++ news ++ cc.toList.drop (off * i.size + len * i.size + news.length)).toArray) := by
          simp [Builtin.append_, run_underlying hu, sizeOf, typeInfo, hinf, Builtin.lenOf, hroom, hf, e1, Addr.add_lit, hst]
        rw [hnlen] at hB'
        refine ⟨_, _, _, R, _, _, hrun _ _ (by rw [hv, hy]; exact hr), .inl rfl, hk1 hroom, F.wrote hlk rfl (grownBy_setRow w (R.ρ id) _) (cells_notdf hB (b := .row e' i.size cs) rfl) hB' rfl ?_, ⟨rfl, hkap, hroom⟩, hp0⟩
        exact ((LL.take hclt _).app hnl).app (LL.drop hclt _)
    · have h0 : cp < len + m := by omega
      obtain ⟨⟨hG, h2, h3⟩, hk3⟩ := hk2 h0
      obtain ⟨vs, f1, _, f2, f3, f4⟩ := run_cells (P := P) hB (b := .row e' i.size cs) rfl (off * i.size) (len * i.size) hkn
      rcases hcase with ⟨_, hm0⟩ | ⟨ad, c1, news, hy, hnl1, hnl2, hnl3, hnl4⟩
      · omega
      have h2' : (len + m) * i.bytes ≤ 140737488355328 := mulcast h2
      have hr := run_append_grow (P := P) w t o.type e' inf z0 hu hinf hz0 ⟨R.ρ id, off * i.size, none⟩ len cp vs (by rw [f1, e1]) (by
        intro j v hj
        have := f2 j v hj
        rwa [show R.adr id (off * i.size) = ⟨R.ρ id, off * i.size, none⟩ by simp [Ren.adr, hd0]] at this) ad m c1 news (by rw [hnl1, e1]) hnl2 h0 (by omega) (by rw [e2]; exact growslice_fits h0 h2')
      have hgc := grownCap_ge w (len + m) cp e'
      have hgm := grownCap_le_maxLen w (len + m) cp e' (show len + m ≤ maxLen from h3)
      obtain ⟨R', F', hv'⟩ := (F.keep0 (drew_alloc_grown w (.cells (vs.toArray ++ news.toArray ++ Builtin.zeroCells z0.cells (grownCap w (len + m) cp e' - (len + m))) e'))).newRow (hp0 := s.hp) (n := len + m) (e := e') (z := i.size) (xs := vs ++ news)
        (v := .slice (some ⟨w.heap.size, 0, none⟩) (len + m) (grownCap w (len + m) cp e')) (cs := (cs.drop (off * i.size)).take (len * i.size) ++ nw) hG
        ⟨by simp [f1, hnl1, Nat.add_mul], .inr ⟨w.heap.size, _, _, rfl, Nat.zero_le _, World.alloc_heap_new w.drew _, hgc, hgm, by
          simp only [Array.size_append, List.size_toArray, f1, hnl1, size_zeroCells, hzs']
          rw [← Nat.add_mul, ← Nat.add_mul]; congr 1; omega, by
          simp only [Array.toList_append, List.append_assoc]
          rw [← List.append_assoc, List.take_append_of_le_length (by simp [f1, hnl1, Nat.add_mul]), List.take_of_length_le (by simp [f1, hnl1, Nat.add_mul])]⟩⟩ (by simp)
        (f3.append hnl3 (by simp [f1]; omega)) (by simp [hnlen, Nat.add_mul]; omega) (((LL.drop hclt _).take _).app hnl) (by
          intro g hg
          simp only [Value.ownBlock, Option.some.injEq] at hg
          subst hg
          exact ⟨fun j c hj e => absurd (F.hp.blk j c hj).lt (by omega), .inr F.fr.size⟩)
      exact ⟨_, _, _, R', _, _, hrun _ _ (by rw [hv, hy]; exact hr), .inl rfl, hk3, F', hv', .inl (Nat.lt_succ_self _)⟩

theorem prim_lt {x : AC} {n : Nat} (h : x.prim = true) : x.lt n := by cases x <;> first | trivial | cases h

theorem lookup_out (hT : TOk P T) {t id ke el : Nat} {x y : Operand} {ok : Bool} {m : List (List AC × AC)} {ks zs : List AC} {dk ed : TD} {zk zb es eb : Nat} {z0 : AC} {ec : Bool} (ho : o.op = .lookup t x y ok) (F : Fit E R s a w) (hu : P.underlying t = some (.map ke el))
    (hc : conC R (.map id) (a.eval x)) (hd : conV R (.g ks) (a.eval y)) (hm : BRel R id w (.mp m)) (hml : ABlk.lt s.nx (.mp m)) (hke : T ke = some ⟨dk, zk, zb, zs, true⟩) (hel : T el = some ⟨ed, es, eb, [z0], ec⟩) (hag : TI.agg ⟨ed, 1, 0, [], false⟩ = false) (hmk : mOk m ks zs)
    (hk : match (generalizing := false) ok with
      | true => k (.t [.c ((mget m ks).getD z0), .c (.bool (mget m ks).isSome)]) s
      | false => k (.c ((mget m ks).getD z0)) s) : Out P E a w o k := by
  obtain ⟨hko, hmo⟩ := hmk
  have hE := hT _ _ hel
  have eL := (hT _ _ hke).eq rfl
  obtain ⟨ents, clock, hh, hsz, hent⟩ := hm
  simp only [conC] at hc
  have hgo := MapKept.run_getObj_map (P := P) hh
  obtain ⟨vs, hv, hvs, hvc⟩ := hd
  have hag' : TI.agg ⟨ed, es, eb, [z0], ec⟩ = false := hag
  obtain ⟨zv, hz, hzs, hzc, _⟩ := hE.zeroR w
  have hz0 : conC R z0 zv := by
    have hzz : zv.cells = #[zv] := by
      have har := hE.inf
      obtain ⟨ix, z', i1, i2, i3, i4, i5, i6, i7, i8⟩ := har
      have : zv = z' := by
        have hz' : (zeroValue el).run P w = .ok z' w := by simp [zeroValue, typeInfo, i1, i4]
        rw [hz] at hz'; injection hz'
      subst this
      obtain ⟨u, hu1, hu2⟩ := i6 R 0 z0 rfl
      exact hE.one hag' _ _ i1 i4
    obtain ⟨u, hu1, hu2⟩ := hzc R 0 z0 rfl
    rw [hzz] at hu1
    simp at hu1; subst hu1; exact hu2
  obtain ⟨lx, hlx⟩ := eL.lits ks vs R hko hvs hvc
  have hck := fun em => eL.key.check w em hlx
  rcases findAsking_sound (P := P) (w := w) eL (R := R) hko hvs hvc m ents.toList 0 (by simpa using hsz) (fun i p e hi he => by
      obtain ⟨k', v'⟩ := p
      obtain ⟨e', g1, g2⟩ := hent i k' v' hi
      have : e' = e := by have he' : ents[i]? = some e := by simpa using he
                          rw [g1] at he'; injection he'
      exact this ▸ g2) hmo with ⟨a1, a2, a3⟩ | ⟨j, e, v, a1, a2, a3, a4, a5, a6⟩
  · have hr : (Instr.findKey ke (.agg vs) ents.toList).run P w = .ok none w := by rw [run_findKey_eq w eL.wide, a2]
    rw [a1] at hk
    cases ok with
    | true =>
      refine Out.mk (u := .tuple #[zv, .bool false]) ?_ hk F ⟨_, rfl, rfl, ?_⟩ ?_
      · simp [execOp, ho, hc, hv, Instr.lookup, run_underlying hu, hgo, hck, hr, hz]
      · intro i e hi
        match i, hi with
        | 0, hi => simp at hi; subst hi; exact ⟨zv, rfl, hz0⟩
        | 1, hi => simp at hi; subst hi; exact ⟨_, rfl, rfl⟩
        | (i + 2), hi => simp at hi
      · intro e he
        simp at he
        rcases he with rfl | rfl
        · exact (hE.zlt s.nx) z0 (by simp)
        · trivial
    | false =>
      refine Out.mk (u := zv) ?_ hk F hz0 ((hE.zlt s.nx) z0 (by simp))
      simp [execOp, ho, hc, hv, Instr.lookup, run_underlying hu, hgo, hck, hr, hz]
  · have hr : (Instr.findKey ke (.agg vs) ents.toList).run P w = .ok (some (j, e.val)) w := by rw [run_findKey_eq w eL.wide, a1, Nat.zero_add]
    rw [a4] at hk
    have hlv : v.lt s.nx := by
      have := hml
      have hm' : ∀ (m : List (List AC × AC)), mget m ks = some v → ∃ p ∈ m, p.2 = v := by
        intro m
        induction m with
        | nil => intro h; cases h
        | cons p m ih =>
          obtain ⟨k1, v1⟩ := p
          intro h
          simp only [mget] at h
          split at h
          · injection h with h; exact ⟨(k1, v1), by simp, h⟩
          · obtain ⟨p, hp, e⟩ := ih h; exact ⟨p, by simp [hp], e⟩
      obtain ⟨p, hp, e⟩ := hm' m a4
      exact e ▸ (this p hp).2
    cases ok with
    | true =>
      refine Out.mk (u := .tuple #[e.val, .bool true]) ?_ hk F ⟨_, rfl, rfl, ?_⟩ ?_
      · simp [execOp, ho, hc, hv, Instr.lookup, run_underlying hu, hgo, hck, hr]
      · intro i e' hi
        match i, hi with
        | 0, hi => simp at hi; subst hi; exact ⟨e.val, rfl, a5⟩
        | 1, hi => simp at hi; subst hi; exact ⟨_, rfl, rfl⟩
        | (i + 2), hi => simp at hi
      · intro e' he
        simp at he
        rcases he with rfl | rfl
        · exact hlv
        · trivial
    | false =>
      refine Out.mk (u := e.val) ?_ hk F a5 hlv
      simp [execOp, ho, hc, hv, Instr.lookup, run_underlying hu, hgo, hck, hr]
theorem s_lookup (hT : TOk P T) {t : Nat} {x y : Operand} {ok : Bool} (ho : o.op = .lookup t x y ok) (F : Fit E R s a w) (h : stepA T md s (.lookup t x y ok) k) : Out P E a w o k := by
  simp only [stepA, AS.on_eq] at h
  obtain ⟨p, hA, hc, hp0⟩ := onC_sound F h
  clear h
  obtain ⟨q, hk, hd, hq0⟩ := onV_sound F hA
  clear hA
  split at hk <;> try exact hk.elim
  rename_i id ks ke el z1 b1 z2 c1 hq
  have hu : P.underlying t = some (.map ke el) := (hT _ _ hq).d
  split at hk <;> try exact hk.elim
  rename_i m dk zk zb zs ed es eb z0 ec hm hke hel
  obtain ⟨⟨hag, hmk⟩, hk⟩ := hk
  exact lookup_out hT ho F hu hc hd (F.hp.blk _ _ hm) (F.wf.hp _ _ hm).2 hke hel hag hmk hk

theorem grownBy_setObj (w : World) (g : Nat) (o : Obj) : w.grownBy { w with heap := w.heap.setIfInBounds g o } (some g) :=
  ⟨rfl, rfl, rfl, by simp, fun k _ hk => by
    have : g ≠ k := fun e => hk (by rw [e])
    simp [Array.getElem?_setIfInBounds, this]⟩

theorem mset_lt {n : Nat} {ks : List AC} {u : AC} (hq0 : LL n ks) (hu0 : u.lt n) : ∀ (m : List (List AC × AC)), (∀ p ∈ m, LL n p.1 ∧ p.2.lt n) → ∀ p ∈ mset m ks u, LL n p.1 ∧ p.2.lt n := by
  intro m
  induction m with
  | nil => intro _ p hp; simp [mset] at hp; subst hp; exact ⟨hq0, hu0⟩
  | cons q m ih =>
    obtain ⟨k1, v1⟩ := q
    intro hm p hp
    simp only [mset] at hp
    split at hp
    · rcases List.mem_cons.1 hp with e | e
      · subst e; exact ⟨(hm (k1, v1) (by simp)).1, hu0⟩
      · exact hm p (by simp [e])
    · rcases List.mem_cons.1 hp with e | e
      · subst e; exact hm (k1, v1) (by simp)
      · exact ih (fun p hp => hm p (by simp [hp])) p e
theorem mset_prim {m : List (List AC × AC)} {ks z : List AC} {u : AC} (hk : okL ks z) (hu : u.prim = true) (hm : primM m) : primM (mset m ks u) := by
  have hkp : ∀ x ∈ ks, x.prim = true := by
    obtain ⟨_, hg⟩ := okL_get hk
    intro x hx
    obtain ⟨i, hi⟩ := List.mem_iff_getElem?.1 hx
    obtain ⟨z', _, ok⟩ := hg i x hi
    cases x <;> cases z' <;> first | rfl | exact ok.elim
  induction m with
  | nil => intro p hp; simp [mset] at hp; subst hp; exact ⟨hkp, hu⟩
  | cons q m ih =>
    obtain ⟨k1, v1⟩ := q
    intro p hp
    simp only [mset] at hp
    split at hp
    · rcases List.mem_cons.1 hp with e | e
      · subst e; exact ⟨(hm (k1, v1) (by simp)).1, hu⟩
      · exact hm p (by simp [e])
    · rcases List.mem_cons.1 hp with e | e
      · subst e; exact hm (k1, v1) (by simp)
      · exact ih (fun p hp => hm p (by simp [hp])) p e

theorem update_run (hT : TOk P T) {t id ke el : Nat} {x y v : Operand} {m : List (List AC × AC)} {ks zs : List AC} {dk : TD} {zk zb : Nat} {u : AC} (ho : o.op = .mapUpdate t x y v) (hu : P.underlying t = some (.map ke el))
    (hc : conC R (.map id) (a.eval x)) (hd : conV R (.g ks) (a.eval y)) (he : conC R u (a.eval v)) (hB : BRel R id w (.mp m)) (hke : T ke = some ⟨dk, zk, zb, zs, true⟩) (hmk : mOk m ks zs) :
    ∃ w', (execOp a.eval o).run P w = .ok .skip w' ∧ w.grownBy w' (some (R.ρ id)) ∧ BRel R id w' (.mp (mset m ks u)) := by
  obtain ⟨hko, hmo⟩ := hmk
  have eL := (hT _ _ hke).eq rfl
  obtain ⟨ents, clock, hh, hsz, hent⟩ := hB
  simp only [conC] at hc
  have hgo := MapKept.run_getObj_map (P := P) hh
  obtain ⟨vs, hv, hvs, hvc⟩ := hd
  obtain ⟨lx, hlx⟩ := eL.lits ks vs R hko hvs hvc
  have hck := fun em => eL.key.check w em hlx
  have hst := eL.key.stays w hlx
  have hlt : R.ρ id < w.heap.size := (Array.getElem?_eq_some_iff.1 hh).1
  have hself : conL R ks vs 0 := hvc
  rcases findAsking_sound (P := P) (w := w) eL (R := R) hko hvs hvc m ents.toList 0 (by simpa using hsz) (fun i p e hi he => by
      obtain ⟨k', v'⟩ := p
      obtain ⟨e', g1, g2⟩ := hent i k' v' hi
      have : e' = e := by have he' : ents[i]? = some e := by simpa using he
                          rw [g1] at he'; injection he'
      exact this ▸ g2) hmo with ⟨a1, a2, a3⟩ | ⟨j, e, v0, a1, a2, a3, a4, a5, a6⟩
  · have hr : (Instr.findKey ke (.agg vs) ents.toList).run P w = .ok none w := by rw [run_findKey_eq w eL.wide, a2]
    refine ⟨_, ?_, grownBy_setObj w (R.ρ id) (.map (ents.push { key := .agg vs, val := a.eval v, born := clock }) (clock + 1)), ?_⟩
    · simp [execOp, ho, hc, hv, Instr.mapUpdate, run_underlying hu, hgo, hck, hr, MapKept.run_setObj_map _ hh]
    · refine ⟨_, _, by simp [hlt]; exact ⟨rfl, rfl⟩, by rw [a3]; simp [hsz], ?_⟩
      intro i k' v' hi
      rw [a3] at hi
      rw [List.getElem?_append] at hi
      split at hi
      · rename_i hlt2
        obtain ⟨e', g1, g2⟩ := hent i k' v' hi
        refine ⟨e', ?_, g2⟩
        rw [Array.getElem?_push]
        rw [if_neg (by omega)]; exact g1
      · rename_i hge
        have hi0 : i - m.length = 0 := by
          by_cases h0 : i - m.length = 0
          · exact h0
          · rw [List.getElem?_eq_none (by simp; omega)] at hi; cases hi
        rw [hi0] at hi; simp at hi
        obtain ⟨rfl, rfl⟩ := hi
        refine ⟨{ key := .agg vs, val := a.eval v, born := clock }, ?_, ⟨vs, rfl, hvs, hvc⟩, he⟩
        rw [Array.getElem?_push, if_pos (by omega)]
  · have hr : (Instr.findKey ke (.agg vs) ents.toList).run P w = .ok (some (j, e.val)) w := by rw [run_findKey_eq w eL.wide, a1, Nat.zero_add]
    have hej : ents[j]? = some e := by simpa using a2
    refine ⟨_, ?_, grownBy_setObj w (R.ρ id) (.map (ents.modify j fun e => { e with key := .agg vs, val := a.eval v }) clock), ?_⟩
    · simp [execOp, ho, hc, hv, Instr.mapUpdate, run_underlying hu, hgo, hck, hr, hej, a3, hst, MapKept.run_setObj_map _ hh]
    · refine ⟨_, _, by simp [hlt]; exact ⟨rfl, rfl⟩, by rw [a6]; simp [hsz], ?_⟩
      intro i k' v' hi
      rw [a6, List.getElem?_set] at hi
      have hjl : j < m.length := by have := (Array.getElem?_eq_some_iff.1 hej).1; omega
      rw [Array.getElem?_modify]
      split at hi
      · rename_i e1; subst e1
        (try rw [if_pos hjl] at hi)
        injection hi with hi; injection hi with h1 h2; subst h1; subst h2
        refine ⟨{ e with key := .agg vs, val := a.eval v }, by simp [hej], ⟨vs, rfl, hvs, hvc⟩, he⟩
      · rename_i hne
        obtain ⟨e', g1, g2⟩ := hent i k' v' hi
        exact ⟨e', by simp [hne, g1], g2⟩

theorem s_mapUpdate (hT : TOk P T) {t : Nat} {x y v : Operand} (ho : o.op = .mapUpdate t x y v) (F : Fit E R s a w) (h : stepA T md s (.mapUpdate t x y v) k) : Out P E a w o k := by
  simp only [stepA, AS.on_eq] at h
  obtain ⟨p, hA, hc, hp0⟩ := onC_sound F h
  clear h
  obtain ⟨q, hB, hd, hq0⟩ := onV_sound F hA
  clear hA
  obtain ⟨u, hk, he, hu0⟩ := onC_sound F hB
  clear hB
  split at hk <;> try exact hk.elim
  rename_i id ks ke el z1 b1 z2 c1 hq
  have hu : P.underlying t = some (.map ke el) := (hT _ _ hq).d
  split at hk <;> try exact hk.elim
  · rename_i m dk zk zb zs hm hke
    obtain ⟨hmk, hk⟩ := hk
    have hB := F.hp.blk _ _ hm
    obtain ⟨w', h1, h2, h3⟩ := update_run (P := P) hT ho hu hc hd he hB hke hmk
    have hndf : ∀ ds, w.heap[R.ρ id]? ≠ some (.deferred ds) := by
      obtain ⟨ents, clock, hh, _⟩ := hB
      intro ds e; rw [hh] at e; cases e
    exact ⟨.skip, w', undef, R, _, _, h1, .inr ⟨rfl, rfl⟩, hk, F.wrote hm rfl h2 hndf h3 rfl (mset_lt hq0 hu0 m (F.wf.hp _ _ hm).2), ⟨#[], rfl, rfl, by simp⟩, by intro e he; cases he⟩
  · rename_i I dk zk zb zs hm hke
    obtain ⟨⟨hup, hmk⟩, hk⟩ := hk
    obtain ⟨m, ⟨hI, hp⟩, hB⟩ := BRel.mi_iff.1 (F.hp.blk _ _ hm)
    obtain ⟨hmk, hI2⟩ := hmk m hI
    obtain ⟨w', h1, h2, h3⟩ := update_run (P := P) hT ho hu hc hd he hB hke hmk
    have hndf : ∀ ds, w.heap[R.ρ id]? ≠ some (.deferred ds) := by
      obtain ⟨ents, clock, hh, _⟩ := hB
      intro ds e; rw [hh] at e; cases e
    have F2 : Fit E R { s with hp := up s.hp id (.mi I) } a w' := F.wrote hm rfl h2 hndf (BRel.mi_iff.2 ⟨_, ⟨hI2, mset_prim hmk.1 hup hp⟩, h3⟩) rfl trivial
    have F3 : Fit E R s a w' := by
      have := F2.hp_congr (hp' := s.hp) (fun i => by
        rw [lk_up]
        split
        · rename_i e; exact e ▸ hm
        · rfl)
      exact this
    exact ⟨.skip, w', undef, R, _, _, h1, .inr ⟨rfl, rfl⟩, hk, F3, ⟨#[], rfl, rfl, by simp⟩, by intro e he; cases he⟩

theorem s_range (hT : TOk P T) {t : Nat} {x : Operand} (ho : o.op = .range t x) (F : Fit E R s a w) (h : stepA T md s (.range t x) k) : Out P E a w o k := by
  simp only [stepA, AS.on_eq] at h
  obtain ⟨p, hk, hc, hp0⟩ := onC_sound F h
  clear h
  split at hk <;> try exact hk.elim
  rename_i b z bb zz cc hq
  have hu : P.underlying t = some .string := (hT _ _ hq).d
  obtain ⟨hG, hk⟩ := lit_iff.1 hk
  rw [decide_eq_true_eq] at hG
  simp only [conC] at hc
  have hag := Ren.set_agree R s.nx w.heap.size 0 0 hG
  have hf : lk s.hp s.nx = none := by
    cases hq : lk s.hp s.nx with
    | none => rfl
    | some b => have := F.nx _ _ hq; omega
  have F1 := (F.keep0 (w.grownBy_alloc (.stringIter b 0) none)).ren hag (Ren.set_ok _ _ _ _ hG F.ok) (Nat.le_succ s.nx) (show s.nx + 1 ≤ GB by omega)
  have F2 : Fit E (R.set s.nx w.heap.size 0 0) { s with hp := (s.nx, .si b 0) :: s.hp, nx := s.nx + 1 } a (w.alloc (.stringIter b 0)) := by
    refine F1.add hf ?_ (fun _ => .inr ?_) ?_ (.inl (Nat.lt_succ_self _)) trivial
    · refine ⟨?_, by simp [Ren.set]⟩
      rw [Ren.set_ρ]; exact World.alloc_heap_new w _
    · rw [Ren.set_ρ]; exact F.fr.size
    · intro j c hj _
      rw [Ren.set_ρ, (hag j (F.wf.hp j c hj).1).1]
      exact fun e => absurd (F.hp.blk j c hj).lt (by omega)
  refine ⟨.value (.pointer (some ⟨w.heap.size, 0, none⟩)), w.alloc (.stringIter b 0), _, _, _, _, ?_, .inl rfl, hk, F2, ?_, .inl (Nat.lt_succ_self _)⟩
  · simp [execOp, ho, Instr.range, hc, run_underlying hu]
  · simp [conV, conC, Ren.set, Ren.adr]
theorem run_next_on {r : Nat} {b : ByteArray} {pos : Nat} {ty : TypeId} (hh : w.heap[r]? = some (.stringIter b pos)) :
    (Instr.next (.pointer (some ⟨r, 0, none⟩)) true ty).run P w = if pos < b.size then .ok (.tuple #[.bool true, .int .i64 pos, .int .i32 ((Utf8.decode b pos).1 : Nat)]) { w with heap := w.heap.setIfInBounds r (.stringIter b (pos + (Utf8.decode b pos).2)) } else .ok (.tuple #[.bool false]) w := by
  by_cases h : pos < b.size
  · simp [Instr.next, getObj, setObj, Sem.run, hh, h, goInt]
  · simp [Instr.next, getObj, setObj, Sem.run, hh, h]
theorem s_next {x : Operand} (ho : o.op = .next x true) (F : Fit E R s a w) (h : stepA T md s (.next x true) k) : Out P E a w o k := by
  simp only [stepA, AS.on_eq] at h
  obtain ⟨p, hk, hc, hp0⟩ := onC_sound F h
  clear h
  split at hk <;> try exact hk.elim
  rename_i id
  split at hk <;> try exact hk.elim
  rename_i b pos hm
  obtain ⟨hh, hd⟩ := F.hp.blk _ _ hm
  simp only [conC, Ren.adr, hd, Nat.add_zero] at hc
  have hlt2 : R.ρ id < w.heap.size := (Array.getElem?_eq_some_iff.1 hh).1
  by_cases hlt : pos < b.size
  · have hk := hk.1 hlt
    refine ⟨.value (.tuple #[.bool true, .int .i64 pos, .int .i32 ((Utf8.decode b pos).1 : Nat)]), { w with heap := w.heap.setIfInBounds (R.ρ id) (.stringIter b (pos + (Utf8.decode b pos).2)) }, _, R, _, _, ?_, .inl rfl, hk, F.wrote hm rfl (grownBy_setObj w (R.ρ id) _) (by intro ds e; rw [hh] at e; cases e) ⟨by simp [hlt2], hd⟩ rfl trivial, ?_, ?_⟩
    · simp [execOp, ho, hc, run_next_on hh, hlt, Sem.run]
    · refine ⟨_, rfl, rfl, ?_⟩
      intro i e hi
      match i, hi with
      | 0, hi => simp at hi; subst hi; exact ⟨_, rfl, rfl⟩
      | 1, hi => simp at hi; subst hi; exact ⟨_, rfl, rfl⟩
      | 2, hi => simp at hi; subst hi; exact ⟨_, rfl, rfl⟩
    · intro e he; simp at he; rcases he with rfl | rfl | rfl <;> trivial
  · have hk := hk.2 hlt
    refine Out.mk (u := .tuple #[.bool false]) ?_ hk F ⟨_, rfl, rfl, ?_⟩ ?_
    · simp [execOp, ho, hc, run_next_on hh, hlt, Sem.run]
    · intro i e hi
      match i, hi with
      | 0, hi => simp at hi; subst hi; exact ⟨_, rfl, rfl⟩
    · intro e he; simp at he; subst he; trivial


/-! ### Reading and writing slices -/
theorem conL_take {R : Ren} {gs : List AC} {vs : List Value} : conL R gs vs.toArray 0 ↔ ∀ (i : Nat) (x : AC), gs[i]? = some x → ∃ v : Value, vs[i]? = some v ∧ conC R x v := by
  simp [conL]
/-- The first n elements are read. -/
theorem rdS_sound (P : Program) {q : AC} {z n sl : Nat} {kk : List AC → Prop} {u : Value} (F : Fit E R s a w) (hc : conC R q u) (hsl : slLen q = some sl) (hn : n ≤ sl) (hz : 0 < z) (h : rdS s q z n kk) :
    ∃ nw, kk nw ∧ LL s.nx nw ∧ nw.length = n * z ∧ (Builtin.lenOf u).run P w = .ok sl w ∧ ∃ vs : List Value, vs.length = n * z ∧ (Builtin.firstCells z n u).run P w = .ok vs.toArray w ∧ conL R nw vs.toArray 0 ∧ ∀ v ∈ vs, v.oneCell' = true := by
  cases q <;> simp only [rdS] at h <;> try exact h.elim
  · rename_i id off len cap
    simp only [slLen, Option.some.injEq] at hsl; subst hsl
    obtain ⟨b, cs, ⟨h1, hk⟩, hid, hb, hB, hbl⟩ := onCells_sound F h
    obtain ⟨ad, cp, hv, _, had, _⟩ := hc
    obtain ⟨vs, e1, e5, e2, e3, e4⟩ := run_cells (P := P) hB hb off (n * z) h1
    refine ⟨_, hk, ((ABlk.lt_cells hbl hb).drop _).take _, by simp; omega, by simp [hv, Builtin.lenOf], vs, e1, ?_, e3, e4⟩
    by_cases hn0 : n = 0
    · subst hn0
      have : vs = [] := List.eq_nil_of_length_eq_zero (by rw [e1]; simp)
      subst this
      simp [hv, Builtin.firstCells, loadCells, loadCellsFrom]
    · simp [hv, Builtin.firstCells, had (by omega), e5]
  · rename_i id len
    simp only [slLen, Option.some.injEq] at hsl; subst hsl
    split at h <;> try exact h.elim
    rename_i e' z' cs hlk
    obtain ⟨h1, hk⟩ := h
    have hB := F.hp.blk _ _ hlk
    have hd0 : R.δ id = 0 := by obtain ⟨_, _, hd0, _⟩ := hB; exact hd0
    obtain ⟨vs, e1, e5, e2, e3, e4⟩ := run_cells (P := P) hB (b := .row e' z' cs) rfl 0 (n * z) (by omega)
    refine ⟨_, hk, LL.take (F.wf.hp _ _ hlk).2 _, by simp; omega, by simp [hc.1, Builtin.lenOf], vs, e1, ?_, by simpa using e3, e4⟩
    simp [hc.1, Builtin.firstCells, show (⟨R.ρ id, 0, none⟩ : Addr) = R.adr id 0 by simp [Ren.adr, hd0], e5]
  · simp only [slLen, Option.some.injEq] at hsl; subst hsl
    obtain ⟨rfl, hk⟩ := h
    simp only [conC] at hc
    exact ⟨_, hk, fun x hx => (List.not_mem_nil hx).elim, by simp, by simp [hc, Builtin.lenOf], [], by simp, by simp [hc, Builtin.firstCells], by intro j x hj; simp at hj, by simp⟩
  · rename_i id off len
    simp only [slLen, Option.some.injEq] at hsl; subst hsl
    obtain ⟨b, cs, ⟨h1, hk⟩, hid, hb, hB, hbl⟩ := onCells_sound F h
    obtain ⟨vs, e1, e5, e2, e3, e4⟩ := run_cells (P := P) hB hb off (n * z) h1
    rcases hc with ⟨ad, cp, hv, had, _⟩ | ⟨h0, hv⟩
    · refine ⟨_, hk, ((ABlk.lt_cells hbl hb).drop _).take _, by simp; omega, by simp [hv, Builtin.lenOf], vs, e1, ?_, e3, e4⟩
      by_cases hn0 : n = 0
      · subst hn0
        have : vs = [] := List.eq_nil_of_length_eq_zero (by rw [e1]; simp)
        subst this
        simp [hv, Builtin.firstCells, loadCells, loadCellsFrom]
      · simp [hv, Builtin.firstCells, had (by omega), e5]
    · have hn0 : n = 0 := by omega
      subst hn0
      have : vs = [] := List.eq_nil_of_length_eq_zero (by rw [e1]; simp)
      subst this
      exact ⟨_, hk, ((ABlk.lt_cells hbl hb).drop _).take _, by simp, by simp [hv, h0, Builtin.lenOf], [], by simp, by simp [hv, Builtin.firstCells], e3, by simp⟩
  · rename_i id off len c0 z'
    simp only [slLen, Option.some.injEq] at hsl; subst hsl
    split at h <;> try exact h.elim
    rename_i e' z'' cs hlk
    obtain ⟨⟨rfl, h1⟩, hk⟩ := h
    have hB := F.hp.blk _ _ hlk
    have hd0 : R.δ id = 0 := by obtain ⟨_, _, hd0, _⟩ := hB; exact hd0
    obtain ⟨vs, e1, e5, e2, e3, e4⟩ := run_cells (P := P) hB (b := .row e' z'' cs) rfl (off * z') (n * z') h1
    refine ⟨_, hk, (LL.drop (F.wf.hp _ _ hlk).2 _).take _, by simp; omega, by simp [hc.1, Builtin.lenOf], vs, e1, ?_, e3, e4⟩
    simp [hc.1, Builtin.firstCells, show (⟨R.ρ id, off * z', none⟩ : Addr) = R.adr id (off * z') by simp [Ren.adr, hd0], e5]
/-- Cells are written from a slice's beginning on. -/
theorem wrS_sound (P : Program) {p : AC} {z n pl : Nat} {nw : List AC} {kk : AS → Prop} {u : Value} {vs : List Value} (F : Fit E R s a w) (hc : conC R p u) (hpl : slLen p = some pl) (hn : n ≤ pl) (hz : 0 < z)
    (hlen : nw.length = n * z) (hvl : vs.length = n * z) (hvc : conL R nw vs.toArray 0) (hv1 : ∀ v ∈ vs, v.oneCell' = true) (hl : LL s.nx nw) (h : wrS s p z n nw kk) :
    ∃ s' w', kk s' ∧ Fit E R s' a w' ∧ s'.nx = s.nx ∧ ∃ base c, u = .slice base pl c ∧ ((base = none ∧ n = 0 ∧ w' = w) ∨ ∃ ad, base = some ad ∧ (storeCells ad vs).run P w = .ok () w') := by
  have nil : ∀ {b : ABlk} {cs : List AC} {id o : Nat}, n = 0 → lk s.hp id = some b → b.cells = some cs → Fit E R { s with hp := up s.hp id (b.with (cs.take o ++ nw ++ cs.drop (o + n * z))) } a w := fun {b cs id o} h0 hid hb => by
    subst h0
    have : nw = [] := List.eq_nil_of_length_eq_zero (by rw [hlen]; simp)
    subst this
    refine F.hp_congr fun i => ?_
    rw [lk_up]
    split
    · rename_i e; subst e
      rw [hid]
      simp only [List.append_nil, Nat.zero_mul, Nat.add_zero, List.take_append_drop]
      cases b <;> simp only [ABlk.cells, Option.some.injEq] at hb <;> first | (subst hb; rfl) | cases hb
    · rfl
  have vnil : n = 0 → vs = [] := fun h0 => List.eq_nil_of_length_eq_zero (by rw [hvl, h0]; simp)
  cases p <;> simp only [wrS, AS.on_eq] at h <;> try exact h.elim
  · rename_i id off len cap
    simp only [slLen, Option.some.injEq] at hpl; subst hpl
    obtain ⟨b, cs, ⟨⟨hw, h1⟩, hk⟩, hid, hb, hB, hbl⟩ := onCells_sound F h
    obtain ⟨ad, cp, hv, _, had, _⟩ := hc
    by_cases h0 : n = 0
    · exact ⟨_, w, hk, nil h0 hid hb, rfl, some ad, cp, hv, .inr ⟨ad, rfl, by rw [vnil h0]; simp [storeCells]⟩⟩
    · obtain ⟨c, ty, hh, hle, hd, hB'⟩ := hB.splice hb hw off nw vs (by omega) hvc (by omega)
      have hst := run_storeCells_at P (R.ρ id) off ty vs 0 c w hh (by simpa using hle) hv1
      have had := had (by omega)
      rw [hlen] at hB'
      refine ⟨_, _, hk, F.wrote hid hw (grownBy_setRow w (R.ρ id) _) (cells_notdf hB hb) hB' (by rw [ABlk.with_wr, hw]) ?_, rfl, some ad, cp, hv, .inr ⟨ad, rfl, ?_⟩⟩
      · have hcl := ABlk.lt_cells hbl hb
        exact ABlk.with_lt hb (((hcl.take _).app hl).app (hcl.drop _))
      · rw [had, show R.adr id off = ⟨R.ρ id, off, none⟩ by simp [Ren.adr, hd]]
        simpa using hst
  · rename_i id len
    simp only [slLen, Option.some.injEq] at hpl; subst hpl
    split at h <;> try exact h.elim
    rename_i e' z' cs hlk
    obtain ⟨h1, hk⟩ := h
    have hB := F.hp.blk _ _ hlk
    obtain ⟨c, ty, hh, hle, hd, hB'⟩ := hB.splice (b := .row e' z' cs) rfl rfl 0 nw vs (by omega) hvc (by omega)
    have hst := run_storeCells_at P (R.ρ id) 0 ty vs 0 c w hh (by simpa using hle) hv1
    simp only [ABlk.with, hlen, Nat.zero_add, List.take_zero, List.nil_append] at hB'
    refine ⟨_, _, hk, F.wrote hlk rfl (grownBy_setRow w (R.ρ id) _) (cells_notdf hB (b := .row e' z' cs) rfl) hB' rfl ?_, rfl, _, _, hc.1, .inr ⟨_, rfl, by simpa using hst⟩⟩
    exact hl.app (LL.drop (F.wf.hp _ _ hlk).2 _)
  · simp only [slLen, Option.some.injEq] at hpl; subst hpl
    obtain ⟨rfl, hk⟩ := h
    simp only [conC] at hc
    exact ⟨_, w, hk, F, rfl, none, 0, hc, .inl ⟨rfl, rfl, rfl⟩⟩
  · rename_i id off len c0 z'
    simp only [slLen, Option.some.injEq] at hpl; subst hpl
    split at h <;> try exact h.elim
    rename_i e' z'' cs hlk
    obtain ⟨⟨rfl, rfl, h1⟩, hk⟩ := h
    obtain ⟨hv, hkap, hlc⟩ := hc
    have hB := F.hp.blk _ _ hlk
    have hfit : off * z'' + nw.length ≤ R.κ id * z'' := by
      rw [hlen, ← hkap, Nat.add_mul]
      have := Nat.mul_le_mul_right z'' (show n ≤ c0 by omega)
      omega
    obtain ⟨c, hh, hle, hd, hB'⟩ := BRel.spliceX hB (by omega) hvc h1 hfit
    have hst := run_storeCells_at P (R.ρ id) (off * z'') e' vs 0 c w hh (by simpa using hle) hv1
    rw [hlen] at hB'
    refine ⟨_, _, hk, F.wrote hlk rfl (grownBy_setRow w (R.ρ id) _) (cells_notdf hB (b := .row e' z'' cs) rfl) hB' rfl ?_, rfl, _, _, hv, .inr ⟨_, rfl, by simpa using hst⟩⟩
    have hcl := (F.wf.hp _ _ hlk).2
    exact ((LL.take hcl _).app hl).app (LL.drop hcl _)

theorem s_cap (hT : TOk P T) {t : Nat} {x : Operand} {c : Call} (hc0 : c = { callee := .builtin .cap, args := #[x], argTypes := #[t] }) (ho : o.op = .call c) (F : Fit E R s a w) (h : stepA T md s (.call c) k) : Out P E a w o k := by
  subst hc0
  simp only [stepA, AS.on_eq] at h
  obtain ⟨p, hk, hc, hp0⟩ := onC_sound F h
  clear h
  split at hk <;> try exact hk.elim
  · rename_i id off n cp z e zz b zzz cc hq
    have hu : P.underlying t = some (.slice e) := (hT _ _ hq).d
    obtain ⟨hcv, _⟩ := hc
    exact Out.mk (u := .int .i64 cp) (by simp [execOp, ho, resolve, invoke, builtin, Builtin.cap_, hcv, run_underlying hu, goInt]) hk F rfl trivial
  · rename_i id off n cp e zz b zzz cc hq
    have hu : P.underlying t = some (.slice e) := (hT _ _ hq).d
    obtain ⟨ad, c1, hcv, hcap, _⟩ := hc
    obtain rfl := hcap cp rfl
    exact Out.mk (u := .int .i64 c1) (by simp [execOp, ho, resolve, invoke, builtin, Builtin.cap_, hcv, run_underlying hu, goInt]) hk F rfl trivial

theorem s_copy (hT : TOk P T) {t t' : Nat} {x y : Operand} {c : Call} (hc0 : c = { callee := .builtin .copy, args := #[x, y], argTypes := #[t, t'] }) (ho : o.op = .call c) (F : Fit E R s a w) (h : stepA T md s (.call c) k) : Out P E a w o k := by
  subst hc0
  simp only [stepA, AS.on_eq] at h
  obtain ⟨p, hA, hc, hp0⟩ := onC_sound F h
  clear h
  obtain ⟨q, hk, hd, hq0⟩ := onC_sound F hA
  clear hA
  split at hk <;> try exact hk.elim
  rename_i e zz b zzz cc dl sl hq hdl hsl
  have hu : P.underlying t = some (.slice e) := (hT _ _ hq).d
  split at hk <;> try exact hk.elim
  rename_i i hi
  obtain ⟨hz, hk⟩ := hk
  obtain ⟨inf, z0, hinf, e1, _⟩ := (hT _ _ hi).inf
  obtain ⟨nw, hk, hnl, hnlen, hlo, vs, hvl, hrd, hvc, hv1⟩ := rdS_sound P F hd hsl (Nat.min_le_left sl dl) hz hk
  obtain ⟨s', w', hk, F', hnx, base, cp, hv, hst⟩ := wrS_sound P F hc hdl (Nat.min_le_right sl dl) hz hnlen hvl hvc hv1 hnl hk
  refine ⟨.value (.int .i64 ((min sl dl : Nat) : Int)), w', _, R, s', _, ?_, .inl rfl, hk, F', rfl, trivial⟩
  have hmin : Nat.min sl dl = min sl dl := rfl
  rcases hst with ⟨rfl, h0, rfl⟩ | ⟨ad, rfl, hst⟩
  · simp [execOp, ho, resolve, invoke, builtin, Builtin.copy_, hv, run_underlying hu, hlo, hmin, sizeOf, typeInfo, hinf, e1, hrd, goInt]
  · simp [execOp, ho, resolve, invoke, builtin, Builtin.copy_, hv, run_underlying hu, hlo, hmin, sizeOf, typeInfo, hinf, e1, hrd, hst, goInt]

theorem s_clear (hT : TOk P T) {t : Nat} {x : Operand} {c : Call} (hc0 : c = { callee := .builtin .clear, args := #[x], argTypes := #[t] }) (ho : o.op = .call c) (F : Fit E R s a w) (h : stepA T md s (.call c) k) : Out P E a w o k := by
  subst hc0
  simp only [stepA, AS.on_eq] at h
  obtain ⟨p, hk, hc, hp0⟩ := onC_sound F h
  clear h
  split at hk <;> try exact hk.elim
  rename_i e zz b zzz cc n hq hdl
  have hu : P.underlying t = some (.slice e) := (hT _ _ hq).d
  split at hk <;> try exact hk.elim
  rename_i i hi
  obtain ⟨⟨hz, hzl⟩, hk⟩ := hk
  obtain ⟨z0, hz0, hzs, hzc, _⟩ := (hT _ _ hi).zeroR w
  have hsz : (Builtin.zeroCells z0.cells n).size = n * i.size := by rw [size_zeroCells, hzs, hzl]
  have hcon := zeroCells_con (R := R) (by omega) hzs hzc n
  have hrl : (rep n i.zero).length = n * i.size := by rw [rep_len, hzl]
  obtain ⟨s', w', hk, F', hnx, base, cp, hv, hst⟩ := wrS_sound P F hc hdl (Nat.le_refl n) hz hrl (by simpa using hsz) hcon (fun v hv => by
    obtain ⟨j, hj⟩ := List.mem_iff_getElem?.1 hv
    have hjl := (List.getElem?_eq_some_iff.1 hj).1
    obtain ⟨u, hu', hcu⟩ := hcon j _ (List.getElem?_eq_getElem (by rw [hrl]; simpa [hsz] using hjl))
    rw [Nat.zero_add, List.getElem?_toArray, hj] at hu'
    injection hu' with hu'
    exact hu' ▸ hcu.one) (rep_lt ((hT _ _ hi).zlt _) n) hk
  refine ⟨.value (.tuple #[]), w', _, R, s', _, ?_, .inl rfl, hk, F', ⟨#[], rfl, rfl, by simp⟩, by intro e he; cases he⟩
  rcases hst with ⟨rfl, h0, rfl⟩ | ⟨ad, rfl, hst⟩
  · simp [execOp, ho, resolve, invoke, builtin, Builtin.clear_, hv, run_underlying hu]
  · by_cases h0 : n = 0
    · subst h0
      have : (Builtin.zeroCells z0.cells 0).toList = [] := List.eq_nil_of_length_eq_zero (by simpa using hsz)
      rw [this] at hst
      simp [storeCells] at hst
      subst hst
      simp [execOp, ho, resolve, invoke, builtin, Builtin.clear_, hv, run_underlying hu]
    · obtain ⟨m, rfl⟩ : ∃ m, n = m + 1 := ⟨n - 1, by omega⟩
      simp [execOp, ho, resolve, invoke, builtin, Builtin.clear_, hv, run_underlying hu, hz0, hst]

theorem step_sound (hT : TOk P T) (F : Fit E R s a w) (h : stepA T md s o.op k) : Out P E a w o k := by
  cases ho : o.op <;> rw [ho] at h
  case move x => exact s_move (.inl ho) F h
  case assign x => exact s_move (.inr ho) F h
  case pick => exact s_pick ho F h
  case alloc => exact s_alloc hT ho F h
  case box => exact s_box ho F h
  case build => exact s_build hT ho F h
  case buildSlice => exact s_buildSlice hT ho F h
  case load => exact s_load hT ho F h
  case store => exact s_store hT ho F h
  case nilCheck => exact s_nilCheck ho F h
  case binOp => exact s_binOp hT ho F h
  case unOp => exact s_unOp ho F h
  case convert => exact s_convert hT ho F h
  case makeFunc fn fs cs =>
    cases fn <;> first | exact s_makeFunc ho F h | exact h.elim
  case fieldAddr => exact s_fieldAddr hT ho F h
  case field => exact s_field hT ho F h
  case indexAddr => exact s_indexAddr hT ho F h
  case index => exact s_index hT ho F h
  case extract => exact s_extract ho F h
  case makeSlice => exact s_makeSlice hT ho F h
  case makeMap t r =>
    cases r with
    | none => exact s_makeMap ho F h
    | some x => exact h.elim
  case lookup => exact s_lookup hT ho F h
  case mapUpdate => exact s_mapUpdate hT ho F h
  case range => exact s_range hT ho F h
  case next x q =>
    cases q with
    | true => exact s_next ho F h
    | false => exact h.elim
  case slice t x lo hi mx =>
    cases mx with
    | none => exact s_slice hT ho F h
    | some y =>
      cases hi with
      | none => exact h.elim
      | some z => exact s_slice3 hT ho F h
  case call c =>
    obtain ⟨cal, args, ats⟩ := c
    have h' := h
    simp only [stepA, AS.on_eq] at h'
    split at h' <;> try exact h'.elim
    · rename_i x t h2 h3
      obtain rfl : args = #[x] := by rw [← h2, Array.toArray_toList]
      obtain rfl : ats = #[t] := by rw [← h3, Array.toArray_toList]
      exact s_len hT rfl ho F h
    · rename_i x t h2 h3
      obtain rfl : args = #[x] := by rw [← h2, Array.toArray_toList]
      obtain rfl : ats = #[t] := by rw [← h3, Array.toArray_toList]
      exact s_cap hT rfl ho F h
    · rename_i x y t t' h2 h3
      obtain rfl : args = #[x, y] := by rw [← h2, Array.toArray_toList]
      obtain rfl : ats = #[t, t'] := by rw [← h3, Array.toArray_toList]
      exact s_copy hT rfl ho F h
    · rename_i x t h2 h3
      obtain rfl : args = #[x] := by rw [← h2, Array.toArray_toList]
      obtain rfl : ats = #[t] := by rw [← h3, Array.toArray_toList]
      exact s_clear hT rfl ho F h
    · rename_i x y h2
      obtain rfl : args = #[x, y] := by rw [← h2, Array.toArray_toList]
      exact s_min rfl ho F h
    · rename_i x y h2
      obtain rfl : args = #[x, y] := by rw [← h2, Array.toArray_toList]
      exact s_max rfl ho F h
    · rename_i x y t t' h2 h3
      exact s_append hT rfl h2 h3 ho F h
  all_goals exact h.elim

end Go.AH
