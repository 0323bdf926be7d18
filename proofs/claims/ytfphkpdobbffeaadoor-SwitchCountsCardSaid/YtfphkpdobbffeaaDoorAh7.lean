/-
  The steps of A3 are what the machine does: the others, and all of them together.
-/
import Derived.Test.YtfphkpdobbffeaaDoorAh6
import Derived.Maps.AppendAt
import Derived.Great.FillDense
set_option linter.unusedSimpArgs false
set_option linter.unusedVariables false
namespace Go.AH
open Go.RowKit

variable {P : Program} {T : Nat → Option TI} {md : Bool} {E : Env} {R : Ren} {s : AS} {a : Act} {w : World} {o : Oper} {k : AV → AS → Prop}

theorem eqC_sound {x y : AC} {u v : Value} {r : Bool} {R : Ren} (h : eqC x y = some r) (hx : conC R x u) (hy : conC R y v) (d : Nat) (t : TypeId) (w : World)
    (ht : ∀ k n, x = .int k n → ∃ k, P.underlying t = some (.int k)) (hb : ∀ b, x = .bool b → P.underlying t = some .bool) : (Op.equalIn (d + 1) t u v).run P w = .ok r w := by
  cases x <;> cases y <;> simp only [eqC, reduceCtorEq] at h
  · rename_i k a k' b
    split at h
    · rename_i hk; subst hk
      injection h with h; subst h
      simp only [conC] at hx hy; subst hx; subst hy
      obtain ⟨q, hq⟩ := ht _ _ rfl
      rw [run_equalIn_int w d t k q a b hq]
      rw [show (a == b) = decide (a = b) from by rw [Bool.eq_iff_iff]; simp]
    · cases h
  · injection h with h; subst h
    simp only [conC] at hx hy; subst hx; subst hy
    exact run_equalIn_bool' w d t _ _ (hb _ rfl)

theorem s_nilCheck {x : Operand} (ho : o.op = .nilCheck x) (F : Fit E R s a w) (h : stepA T md s (.nilCheck x) k) : Out P E a w o k := by
  simp only [stepA, AS.on_eq] at h
  obtain ⟨p, hk, hc, hp0⟩ := onC_sound F h
  clear h
  split at hk <;> try exact hk.elim
  · simp only [conC] at hc
    refine Out.mk (u := a.eval x) ?_ hk F hc hp0
    simp [execOp, ho, hc]
  · simp only [conC] at hc
    refine Out.mk (u := a.eval x) ?_ hk F hc hp0
    simp [execOp, ho, hc]

theorem run_eqGuard_c {op : BinOp} {t : TypeId} {x y : Operand} {u v : Value} (hu : u.oneCell' = true) (hi : u ≠ .nilIface) : (eqGuard op t x y u v).run P w = .ok () w := by
  have key : ∀ op, op ≠ .eql → op ≠ .neq → eqGuard op t x y u v = pure () := by intro op h1 h2; cases op <;> first | rfl | contradiction
  have key2 : ∀ op, op = .eql ∨ op = .neq → eqGuard op t x y u v = pure () := by
    intro op ho
    rcases ho with rfl | rfl <;> cases u <;> first | rfl | (exact absurd rfl hi) | (cases hu; done)
  by_cases h : op = .eql ∨ op = .neq
  · rw [key2 op h]; rfl
  · rw [key op (fun e => h (.inl e)) (fun e => h (.inr e))]; rfl

theorem conC.notNilIface {R : Ren} {x : AC} {v : Value} (h : conC R x v) : v ≠ .nilIface := by
  cases x <;> simp only [conC] at h <;> first | (subst h; simp) | (rcases h with ⟨a, c, rfl, _⟩ | ⟨_, rfl⟩ <;> exact Value.noConfusion) | (obtain ⟨a, c, rfl, _⟩ := h; simp) | (obtain ⟨rfl, _⟩ := h; simp)

theorem s_binOp (hT : TOk P T) {op : BinOp} {t ty : Nat} {x y : Operand} (ho : o.op = .binOp op t x y ty) (F : Fit E R s a w) (h : stepA T md s (.binOp op t x y ty) k) : Out P E a w o k := by
  simp only [stepA, AS.on_eq] at h
  obtain ⟨va, hA, hca, hla⟩ := onV_sound F h
  clear h
  obtain ⟨vb, h, hcb, hlb⟩ := onV_sound F hA
  clear hA
  have hr : ∀ u, (eqGuard op t x y (a.eval x) (a.eval y)).run P w = .ok () w → (binOp op t (a.eval x) (a.eval y)).run P w = .ok u w → (execOp a.eval o).run P w = .ok (.value u) w := by
    intro u h1 h2; simp [execOp, ho, h1, h2]
  have hg : ∀ {xa xb : AC}, conC R xa (a.eval x) → conC R xb (a.eval y) → (eqGuard op t x y (a.eval x) (a.eval y)).run P w = .ok () w :=
    fun h1 _ => run_eqGuard_c h1.one h1.notNilIface
  unfold bin at h
  split at h
  · -- numbers
    rename_i ka xa kb xb
    simp only [conV] at hca hcb
    have g := hg hca hcb
    simp only [conC] at hca hcb
    rw [hca, hcb] at g
    split at h
    · rename_i har
      obtain ⟨h1, h2⟩ := lit_iff.1 h
      obtain ⟨n, hn, hrun⟩ := iop_sound t w h2 har (by simpa using h1)
      exact Out.mk (hr _ (by rw [hca, hcb]; exact g) (by rw [hca, hcb]; exact hrun)) hn F rfl trivial
    · rename_i har
      obtain ⟨h1, h2⟩ := lit_iff.1 h
      obtain rfl : ka = kb := by simpa using h1
      obtain ⟨r, hn, hrun⟩ := icmp_sound (P := P) (kd := ka) t w h2 (by simpa using har)
      exact Out.mk (hr _ (by rw [hca, hcb]; exact g) (by rw [hca, hcb]; exact hrun)) hn F rfl trivial
  · -- truth values
    rename_i xa xb
    simp only [conV] at hca hcb
    have g := hg hca hcb
    simp only [conC] at hca hcb
    rw [hca, hcb] at g
    obtain ⟨h1, h2⟩ := lit_iff.1 h
    have hu : P.underlying t = some .bool := by
      split at h1
      · rename_i hq; exact (hT _ _ hq).d
      · cases h1
    have he : (Op.equal t (.bool xa) (.bool xb)).run P w = .ok (xa == xb) w := run_equalIn_bool' w _ t xa xb hu
    split at h2
    · exact Out.mk (hr _ (by rw [hca, hcb]; exact g) (by rw [hca, hcb]; simp [binOp, he])) h2 F rfl trivial
    · exact Out.mk (hr _ (by rw [hca, hcb]; exact g) (by rw [hca, hcb]; simp [binOp, he]; cases xa <;> cases xb <;> rfl)) h2 F rfl trivial
    · exact h2.elim
  · -- strings
    rename_i xa xb
    simp only [conV] at hca hcb
    have g := hg hca hcb
    simp only [conC] at hca hcb
    rw [hca, hcb] at g
    split at h
    · refine Out.mk (hr (.string (xa ++ xb)) (by rw [hca, hcb]; exact g) ?_) h.2 F rfl trivial
      rw [hca, hcb]
      have hle := h.1
      simp only [binOp, Op.stringOp]
      rw [if_neg]
      · rfl
      · simp only [show IntKind.i64.max = 9223372036854775807 from by decide]; omega
    · exact Out.mk (hr _ (by rw [hca, hcb]; exact g) (by rw [hca, hcb]; simp [binOp, Op.stringOp])) h F rfl trivial
    · exact Out.mk (hr _ (by rw [hca, hcb]; exact g) (by rw [hca, hcb]; simp [binOp, Op.stringOp])) h F rfl trivial
    · exact h.elim
  · -- structs and arrays
    rename_i xs ys
    obtain ⟨vs, hva, h1, h2⟩ := hca
    obtain ⟨us, hvb, h3, h4⟩ := hcb
    obtain ⟨hc, h⟩ := h
    split at hc
    · rename_i i d z' b' z hq
      obtain ⟨hx, hy⟩ := hc
      have eL := (hT _ _ hq).eq rfl
      have e1 := eL.guard
      split at h
      · rename_i r hrr
        have he := eL.run (w := w) hrr hx hy h1 h3 h2 h4
        have g : (eqGuard op t x y (a.eval x) (a.eval y)).run P w = .ok () w := by
          rw [hva, hvb]
          cases op <;> first | rfl | simp [eqGuard, e1]
        split at h
        · exact Out.mk (hr _ g (by rw [hva, hvb]; simp [binOp, he])) h F rfl trivial
        · exact Out.mk (hr _ g (by rw [hva, hvb]; simp [binOp, he])) h F rfl trivial
        · exact h.elim
      · exact h.elim
    · exact hc.elim
  · exact h.elim

theorem s_unOp {op : UnOp} {t : Nat} {x : Operand} (ho : o.op = .unOp op t x) (F : Fit E R s a w) (h : stepA T md s (.unOp op t x) k) : Out P E a w o k := by
  simp only [stepA, AS.on_eq] at h
  obtain ⟨p, hk, hc, hp0⟩ := onC_sound F h
  clear h
  split at hk <;> try exact hk.elim
  · simp only [conC] at hc
    exact Out.mk (u := .bool _) (by simp [execOp, ho, hc, Op.unary]) hk F rfl trivial
  · rename_i kd n
    simp only [conC] at hc
    obtain ⟨m, hm, hr⟩ := iop_sound (P := P) (kb := kd) 0 w hk rfl (.inr (.inr rfl))
    refine Out.mk (u := .int kd m) ?_ hm F rfl trivial
    have : (binOp .sub 0 (.int kd 0) (.int kd n)) = Op.intArith .sub kd 0 n := by simp [binOp]
    rw [this] at hr
    simp [execOp, ho, hc, Op.unary, hr]

theorem s_convert (hT : TOk P T) {src dst : Nat} {x : Operand} (ho : o.op = .convert src dst x) (F : Fit E R s a w) (h : stepA T md s (.convert src dst x) k) : Out P E a w o k := by
  simp only [stepA, AS.on_eq] at h
  obtain ⟨p, hk, hc, hp0⟩ := onC_sound F h
  clear h
  split at hk <;> try exact hk.elim
  rename_i is kd z b zz cc ki n hs hq
  simp only [conC] at hc
  obtain ⟨d, hd⟩ : ∃ d, P.underlying src = some d := by
    have := (hT _ _ hs).d
    cases hz : is.d <;> rw [hz] at this <;> simp only [TD.fits] at this
    case ptr => obtain ⟨_, h⟩ := this; exact ⟨_, h⟩
    case struct => obtain ⟨_, h, _⟩ := this; exact ⟨_, h⟩
    case func => obtain ⟨_, _, _, h⟩ := this; exact ⟨_, h⟩
    all_goals exact ⟨_, this⟩
  refine Out.mk (u := .int kd (kd.wrap n)) ?_ hk F rfl trivial
  have h2 : P.underlying dst = some (.int kd) := (hT _ _ hq).d
  simp [execOp, ho, hc, convert, run_underlying hd, run_underlying h2, Conv.intToInt]

theorem fnOps_sound : ∀ (l : List Operand) {k : List Nat → Prop} (F : Fit E R s a w), stepA.fnOps s l k → ∃ ids, k ids ∧ l.map a.eval = ids.map R.p0 ∧ ∀ i ∈ ids, idOk s.nx i
  | [], k, F, h => ⟨[], h, rfl, by simp⟩
  | x :: r, k, F, h => by
    simp only [stepA.fnOps] at h
    obtain ⟨p, hk, hc, hp0⟩ := onC_sound F h
    split at hk <;> try exact hk.elim
    rename_i id
    obtain ⟨ids, h1, h2, h3⟩ := fnOps_sound r F hk
    simp only [conC] at hc
    exact ⟨id :: ids, h1, by simp [hc, h2, Ren.p0], by intro i hi; rcases List.mem_cons.1 hi with e | e; exact e ▸ hp0; exact h3 i e⟩

theorem s_makeFunc {f : FuncId} {fs cs : Array Operand} (ho : o.op = .makeFunc (.func f) fs cs) (F : Fit E R s a w) (h : stepA T md s (.makeFunc (.func f) fs cs) k) : Out P E a w o k := by
  simp only [stepA, AS.on_eq] at h
  obtain ⟨l1, h, e1, i1⟩ := fnOps_sound _ F h
  obtain ⟨l2, h, e2, i2⟩ := fnOps_sound _ F h
  refine Out.mk (u := .func (.func f) (l1.map R.p0).toArray (l2.map R.p0).toArray) ?_ h F rfl ⟨i1, i2⟩
  have h1 : fs.map a.eval = (l1.map R.p0).toArray := by rw [← e1, ← Array.toList_map, Array.toArray_toList]
  have h2 : cs.map a.eval = (l2.map R.p0).toArray := by rw [← e2, ← Array.toList_map, Array.toArray_toList]
  simp [execOp, ho, Instr.makeFunc, h1, h2]

theorem szOf_sound (hT : TOk P T) {t z : Nat} (h : szOf T t = some z) (w : World) : (sizeOf t).run P w = .ok z w := by
  rw [szOf_eq] at h
  cases hq : T t with
  | none => simp [hq] at h
  | some i => simp [hq] at h; subst h; exact (hT _ _ hq).size w

theorem s_fieldAddr (hT : TOk P T) {t f : Nat} {x : Operand} (ho : o.op = .fieldAddr t x f) (F : Fit E R s a w) (h : stepA T md s (.fieldAddr t x f) k) : Out P E a w o k := by
  simp only [stepA, AS.on_eq] at h
  obtain ⟨p, hk, hc, hp0⟩ := onC_sound F h
  clear h
  split at hk <;> try exact hk.elim
  rename_i id off fs z b zz cc hq
  obtain ⟨fields, hu, hfs, hfi⟩ := (hT _ _ hq).d
  split at hk <;> try exact hk.elim
  rename_i fo ft hf
  obtain ⟨hz, hk'⟩ := lit_iff.1 hk
  clear hk
  have hk := hk'
  clear hk'
  obtain ⟨sz, hsz⟩ : ∃ sz, szOf T ft = some (sz + 1) := by
    cases hq : szOf T ft with
    | none => rw [hq] at hz; cases hz
    | some sz => cases sz with
      | zero => rw [hq] at hz; cases hz
      | succ sz => exact ⟨sz, rfl⟩
  simp only [conC] at hc
  obtain ⟨fl, h1, h2⟩ : ∃ fl, fields[f]? = some fl ∧ (fl.offset, fl.type) = (fo, ft) := by
    rw [← hfs, List.getElem?_map] at hf
    cases hq : fields.toList[f]? with
    | none => simp [hq] at hf
    | some fl => simp [hq] at hf; exact ⟨fl, by simpa using hq, by simp [hf]⟩
  obtain ⟨rfl, rfl⟩ : fl.offset = fo ∧ fl.type = ft := by simpa using h2
  refine Out.mk (u := .pointer (some (R.adr id (off + fl.offset)))) ?_ hk F rfl hp0
  simp [execOp, ho, hc, Instr.fieldAt, run_underlying hu, h1, Instr.sureAddr, fieldPlace, szOf_sound hT hsz, adr_add]

theorem s_indexAddr (hT : TOk P T) {t : Nat} {x y : Operand} (ho : o.op = .indexAddr t x y) (F : Fit E R s a w) (h : stepA T md s (.indexAddr t x y) k) : Out P E a w o k := by
  simp only [stepA, AS.on_eq] at h
  obtain ⟨p, hA, hc, hp0⟩ := onC_sound F h
  clear h
  obtain ⟨q, hk, hd, hq0⟩ := onC_sound F hA
  clear hA
  split at hk <;> try exact hk.elim
  · rename_i id off kd i n e z b zz cc hq
    have hu : P.underlying t = some (.array n e) := (hT _ _ hq).d
    split at hk <;> try exact hk.elim
    rename_i sz hsz
    obtain ⟨hb, hk⟩ := hk
    simp only [conC] at hc hd
    refine Out.mk (u := .pointer (some (R.adr id (off + i.toNat * sz)))) ?_ hk F rfl hp0
    simp [execOp, ho, hc, hd, Instr.indexAt, asIntOf, run_underlying hu, Instr.sureAddr, hb.1, hb.2, szOf_sound hT hsz, adr_add]
  · rename_i id off len cap kd i e z b zz cc hq
    have hu : P.underlying t = some (.slice e) := (hT _ _ hq).d
    split at hk <;> try exact hk.elim
    rename_i sz hsz
    obtain ⟨hb, hk⟩ := hk
    simp only [conC] at hc hd
    obtain ⟨ad, cp, hc, _, hc2, _⟩ := hc
    obtain rfl := hc2 (by omega)
    refine Out.mk (u := .pointer (some (R.adr id (off + i.toNat * sz)))) ?_ hk F rfl hp0
    simp [execOp, ho, hc, hd, Instr.indexAt, asIntOf, run_underlying hu, hb.1, hb.2, szOf_sound hT hsz, adr_add]
  · rename_i id len kd i e z b zz cc hq
    have hu : P.underlying t = some (.slice e) := (hT _ _ hq).d
    split at hk <;> try exact hk.elim
    rename_i e' z' cs sz hl hsz
    obtain ⟨hb, hk⟩ := hk
    simp only [conC] at hc hd
    have hB := F.hp.blk _ _ hl
    obtain ⟨c, _, hd0, _⟩ := hB
    refine Out.mk (u := .pointer (some (R.adr id (i.toNat * sz)))) ?_ hk F rfl hp0
    have : (⟨R.ρ id, 0, none⟩ : Addr) = R.adr id 0 := by simp [Ren.adr, hd0]
    simp [execOp, ho, hc, hd, Instr.indexAt, asIntOf, run_underlying hu, hb.1, hb.2, szOf_sound hT hsz, this, adr_add]
  · rename_i id off len kd i e z b zz cc hq
    have hu : P.underlying t = some (.slice e) := (hT _ _ hq).d
    split at hk <;> try exact hk.elim
    rename_i sz hsz
    obtain ⟨hb, hk⟩ := hk
    simp only [conC] at hc hd
    rcases hc with ⟨ad, cp, hc, hc2, _⟩ | ⟨h0, _⟩
    · obtain rfl := hc2 (by omega)
      refine Out.mk (u := .pointer (some (R.adr id (off + i.toNat * sz)))) ?_ hk F rfl hp0
      simp [execOp, ho, hc, hd, Instr.indexAt, asIntOf, run_underlying hu, hb.1, hb.2, szOf_sound hT hsz, adr_add]
    · omega

theorem s_extract {x : Operand} {i : Nat} (ho : o.op = .extract x i) (F : Fit E R s a w) (h : stepA T md s (.extract x i) k) : Out P E a w o k := by
  simp only [stepA, AS.on_eq] at h
  obtain ⟨p, hk, hc, hp0⟩ := onV_sound F h
  clear h
  split at hk <;> try exact hk.elim
  rename_i es
  split at hk <;> try exact hk.elim
  rename_i e he
  obtain ⟨vs, hv, h1, h2⟩ := hc
  obtain ⟨u, hu, hcu⟩ := h2 i e he
  refine Out.mk (u := u) ?_ hk F ((conV_v R e u).2 hcu) ?_
  · simp [execOp, ho, hv, Instr.extract, hu]
  · have := hp0 e (List.mem_of_getElem? he)
    cases e <;> exact this

theorem s_field (hT : TOk P T) {t f : Nat} {x : Operand} (ho : o.op = .field t x f) (F : Fit E R s a w) (h : stepA T md s (.field t x f) k) : Out P E a w o k := by
  simp only [stepA, AS.on_eq] at h
  obtain ⟨p, hk, hc, hp0⟩ := onV_sound F h
  clear h
  split at hk <;> try exact hk.elim
  rename_i cs fs z b zz cc hq
  obtain ⟨fields, hu, hfs, hfi⟩ := (hT _ _ hq).d
  split at hk <;> try exact hk.elim
  rename_i fo ft hf
  obtain ⟨fl, h1, h2⟩ : ∃ fl, fields[f]? = some fl ∧ (fl.offset, fl.type) = (fo, ft) := by
    rw [← hfs, List.getElem?_map] at hf
    cases hq : fields.toList[f]? with
    | none => simp [hq] at hf
    | some fl => simp [hq] at hf; exact ⟨fl, by simpa using hq, by simp [hf]⟩
  obtain ⟨rfl, rfl⟩ : fl.offset = fo ∧ fl.type = ft := by simpa using h2
  split at hk <;> try exact hk.elim
  rename_i i hi
  have hI := hT _ _ hi
  obtain ⟨vs, hv, hs, hcl⟩ := hc
  split at hk
  · rename_i hag
    split at hk <;> try exact hk.elim
    rename_i z hz
    obtain ⟨v, hv1, hv2⟩ := hcl fl.offset _ (List.getElem?_eq_getElem (by omega))
    rw [Nat.zero_add] at hv1
    refine Out.mk (u := v) ?_ hk.2 F ?_ (LL.getD hp0 _ z hk.1)
    · simp [execOp, ho, hv, Instr.field, run_underlying hu, h1, part, asAgg, hI.aggR, hag, hv1]
    · simpa [conV, List.getD, List.getElem?_eq_getElem (show fl.offset < cs.length by omega)] using hv2
  · rename_i hag
    refine Out.mk (u := .agg (vs.extract fl.offset (fl.offset + i.size))) ?_ hk.2 F ⟨_, rfl, ?_, ?_⟩ ((LL.drop hp0 _).take _)
    · simp [execOp, ho, hv, Instr.field, run_underlying hu, h1, part, asAgg, hI.aggR, hag, hI.size]
    · have := hk.1; simp; omega
    · intro j y hj
      simp only [List.getElem?_take, List.getElem?_drop] at hj
      split at hj
      · rename_i hjn
        obtain ⟨v, hv1, hv2⟩ := hcl _ y hj
        refine ⟨v, ?_, hv2⟩
        rw [Nat.zero_add] at hv1 ⊢
        rw [Array.getElem?_extract]
        have := (Array.getElem?_eq_some_iff.1 hv1).1
        rw [if_pos (by omega)]; exact hv1
      · cases hj

theorem s_index (hT : TOk P T) {t : Nat} {x y : Operand} (ho : o.op = .index t x y) (F : Fit E R s a w) (h : stepA T md s (.index t x y) k) : Out P E a w o k := by
  simp only [stepA, AS.on_eq] at h
  obtain ⟨p, hA, hc, hp0⟩ := onV_sound F h
  clear h
  obtain ⟨q, hk, hd, hq0⟩ := onC_sound F hA
  clear hA
  split at hk <;> try exact hk.elim
  · rename_i cs kd i n e z b zz cc hq
    have hu : P.underlying t = some (.array n e) := (hT _ _ hq).d
    split at hk <;> try exact hk.elim
    rename_i ed b' z' cmp hi
    have hI := hT _ _ hi
    obtain ⟨⟨hag, h1, h2, h3⟩, hk⟩ := hk
    obtain ⟨vs, hv, hs, hcl⟩ := hc
    simp only [conC] at hd
    obtain ⟨v, hv1, hv2⟩ := hcl i.toNat _ (List.getElem?_eq_getElem h3)
    rw [Nat.zero_add] at hv1
    have hag' : TI.agg ⟨ed, 1, b', [z'], cmp⟩ = false := hag
    refine Out.mk (u := v) ?_ hk F ?_ (LL.getD hp0 _ _ h3)
    · have hsz := hI.size w
      have har := hI.aggR w
      rw [hag'] at har
      simp [execOp, ho, hv, hd, Instr.index, asIntOf, run_underlying hu, h1, h2, hsz, part, har, hv1]
    · simpa [conV, List.getD, List.getElem?_eq_getElem h3] using hv2
  · rename_i bs kd i z b zz cc hq
    have hu : P.underlying t = some .string := (hT _ _ hq).d
    obtain ⟨⟨h1, h2⟩, hk⟩ := hk
    simp only [conC, conV] at hc hd
    refine Out.mk (u := .int .u8 ((bs.data.toList.getD i.toNat 0).toNat : Int)) ?_ hk F rfl trivial
    have hlt : i.toNat < bs.size := by omega
    have : bs[i.toNat]? = some (bs.data.toList.getD i.toNat 0) := by
      have hlt' : i.toNat < bs.data.toList.length := by simpa using hlt
      simp only [List.getD, List.getElem?_eq_getElem hlt', Option.getD_some]
      rw [getElem?_pos bs i.toNat hlt]; rfl
    simp [execOp, ho, hc, hd, Instr.index, asIntOf, run_underlying hu, h1, this]

theorem s_makeMap {t : Nat} (ho : o.op = .makeMap t none) (F : Fit E R s a w) (h : stepA T md s (.makeMap t none) k) : Out P E a w o k := by
  simp only [stepA, AS.on_eq] at h
  obtain ⟨hG, hk⟩ := lit_iff.1 h
  rw [decide_eq_true_eq] at hG
  have hag := Ren.set_agree R s.nx w.heap.size 0 0 hG
  have hf : lk s.hp s.nx = none := by
    cases hq : lk s.hp s.nx with
    | none => rfl
    | some b => have := F.nx _ _ hq; omega
  have F1 := (F.keep0 (w.grownBy_alloc (.map #[] 0) none)).ren hag (Ren.set_ok _ _ _ _ hG F.ok) (Nat.le_succ s.nx) (show s.nx + 1 ≤ GB by omega)
  have F2 : Fit E (R.set s.nx w.heap.size 0 0) { s with hp := (s.nx, .mp []) :: s.hp, nx := s.nx + 1 } a (w.alloc (.map #[] 0)) := by
    refine F1.add hf ?_ (fun _ => .inr ?_) ?_ (.inl (Nat.lt_succ_self _)) (by intro p hp; cases hp)
    · refine ⟨#[], 0, ?_, rfl, by simp⟩
      rw [Ren.set_ρ]; exact World.alloc_heap_new w _
    · rw [Ren.set_ρ]; exact F.fr.size
    · intro j c hj _
      rw [Ren.set_ρ, (hag j (F.wf.hp j c hj).1).1]
      exact fun e => absurd (F.hp.blk j c hj).lt (by omega)
  refine ⟨.value (.map (some w.heap.size)), w.alloc (.map #[] 0), _, _, _, _, ?_, .inl rfl, hk, F2, ?_, .inl (Nat.lt_succ_self _)⟩
  · simp [execOp, ho, Instr.makeMap]
  · simp [conV, conC, Ren.set]

def OptI (a : Act) (x : Option Operand) (n : Option Int) : Prop := match x, n with | none, none => True | some x, some n => ∃ kd, a.eval x = .int kd n | _, _ => False

theorem onO_sound {x : Option Operand} {k : Option Int → Prop} (F : Fit E R s a w) (h : stepA.onO s x k) : ∃ n : Option Int, k n ∧ OptI a x n := by
  cases x with
  | none => exact ⟨none, h, trivial⟩
  | some x =>
    simp only [stepA.onO] at h
    obtain ⟨p, hk, hc, hp0⟩ := onC_sound F h
    clear h
    split at hk <;> try exact hk.elim
    rename_i kd n
    exact ⟨some n, hk, kd, hc⟩

theorem run_bounds {lo hi : Option Operand} {l h : Option Int} {isS : Bool} {len cap : Nat} (hl : OptI a lo l)
    (hh : OptI a hi h) (h0 : 0 ≤ l.getD 0) (h1 : l.getD 0 ≤ h.getD len) (h2 : h.getD len ≤ cap) :
    (Instr.sliceBounds isS len cap (lo.map a.eval) (hi.map a.eval) none).run P w = .ok ((l.getD 0).toNat, (h.getD len).toNat, cap) w := by
  cases hi with
  | none => cases h with
    | some n => exact hh.elim
    | none => cases lo with
      | none => cases l with
        | none => simp [Instr.sliceBounds]
        | some n => exact hl.elim
      | some x => cases l with
        | none => exact hl.elim
        | some n =>
          obtain ⟨kd, e⟩ := hl
          simp only [Option.getD_some, Option.getD_none] at h0 h1 h2
          simp [Instr.sliceBounds, Instr.sliceBound, e, asIntOf, h0, h1]
  | some y => cases h with
    | none => exact hh.elim
    | some m =>
      obtain ⟨kd2, e2⟩ := hh
      simp only [Option.getD_some] at h1 h2
      have hm : 0 ≤ m := by omega
      cases lo with
      | none => cases l with
        | none => simp [Instr.sliceBounds, Instr.sliceBound, e2, asIntOf, hm, h2]
        | some n => exact hl.elim
      | some x => cases l with
        | none => exact hl.elim
        | some n =>
          obtain ⟨kd, e⟩ := hl
          simp only [Option.getD_some] at h0 h1
          simp [Instr.sliceBounds, Instr.sliceBound, e, e2, asIntOf, h0, h2, hm, show ¬ (max m 0 < n) by omega]

theorem subS_sound {off len z : Nat} {cap : Option Nat} {l h : Option Int} {k : Nat → Nat → Option Nat → Prop} (hs : stepA.subS off len cap z l h k) {cp : Nat} (hlen : len ≤ cp) (hcap : ∀ c, cap = some c → cp = c) :
    0 ≤ l.getD 0 ∧ l.getD 0 ≤ h.getD len ∧ h.getD len ≤ cp ∧ (h.getD len ≤ len ∨ 0 < len) ∧ k (off + (l.getD 0).toNat * z) ((h.getD len).toNat - (l.getD 0).toNat) (cap.map (· - (l.getD 0).toNat)) := by
  obtain ⟨⟨h1, h2, h3⟩, hk⟩ := hs
  refine ⟨h1, h2, ?_, ?_, hk⟩
  · rcases h3 with h3 | ⟨c, hc, h3, _⟩
    · omega
    · rw [hcap c hc]; exact h3
  · rcases h3 with h3 | ⟨c, hc, h3, h4⟩
    · exact .inl h3
    · exact .inr h4

/-- A part of what a block's address leads to. -/
theorem con_sub {R : Ren} {id off l h cp z : Nat} {cap : Option Nat} (ad : Option Addr) (had : 0 < h - l → ad = some (R.adr id (off + l * z))) (hsome : ∃ x, ad = some x) (hcap : ∀ c, cap = some c → cp = c) (hh : h ≤ cp) :
    conC R (.sl id (off + l * z) (h - l) (cap.map (· - l))) (.slice ad (h - l) (cp - l)) := by
  obtain ⟨x, rfl⟩ := hsome
  refine ⟨x, cp - l, rfl, ?_, fun hp => ?_, by omega⟩
  · intro c hc
    cases cap with
    | none => cases hc
    | some c0 => simp at hc; rw [hcap c0 rfl, hc]
  · have := had hp; injection this

theorem s_slice (hT : TOk P T) {t : Nat} {x : Operand} {lo hi : Option Operand} (ho : o.op = .slice t x lo hi none) (F : Fit E R s a w) (h : stepA T md s (.slice t x lo hi none) k) : Out P E a w o k := by
  simp only [stepA, AS.on_eq] at h
  obtain ⟨p, hA, hc, hp0⟩ := onC_sound F h
  clear h
  obtain ⟨l, hB, hl⟩ := onO_sound F hA
  clear hA
  obtain ⟨g, hk, hg⟩ := onO_sound F hB
  clear hB
  split at hk <;> try exact hk.elim
  · rename_i id off len cap e z b zz cc hq
    have hu : P.underlying t = some (.slice e) := (hT _ _ hq).d
    split at hk <;> try exact hk.elim
    rename_i sz hsz
    obtain ⟨ad, cp, hcv, hcap, had, hlc⟩ := hc
    obtain ⟨h1, h2, h3, h4, hk⟩ := subS_sound hk hlc hcap
    refine Out.mk (u := .slice (some (if cp = (l.getD 0).toNat then ad else ad.add ((l.getD 0).toNat * sz))) ((g.getD len).toNat - (l.getD 0).toNat) (cp - (l.getD 0).toNat)) ?_ hk F ?_ hp0
    · have hb := run_bounds (P := P) (w := w) (isS := true) hl hg h1 h2 h3
      simp [execOp, ho, hcv, Instr.sliceAt, Instr.slice, run_underlying hu, hb, szOf_sound hT hsz]
      split <;> rfl
    · refine con_sub _ ?_ ⟨_, rfl⟩ hcap (by omega)
      intro hp
      have e1 : ¬ cp = (l.getD 0).toNat := by omega
      have e2 : 0 < len := by omega
      rw [if_neg e1, had e2, adr_add]
  · rename_i e z b zz cc hq
    have hu : P.underlying t = some (.slice e) := (hT _ _ hq).d
    split at hk <;> try exact hk.elim
    rename_i sz hsz
    obtain ⟨⟨h1, h2⟩, hk⟩ := hk
    simp only [conC] at hc
    refine Out.mk (u := .slice none 0 0) ?_ hk F rfl trivial
    have hb := run_bounds (P := P) (w := w) (isS := true) (len := 0) (cap := 0) hl hg (by omega) (by rw [h1]; simpa using Int.le_of_eq h2.symm) (by simpa using Int.le_of_eq h2)
    have e1 : (l.getD 0).toNat = 0 := by omega
    have e2 : (g.getD ((0 : Nat) : Int)).toNat = 0 := by
      have : g.getD ((0 : Nat) : Int) = 0 := by simpa using h2
      omega
    rw [e1, e2] at hb
    simp [execOp, ho, hc, Instr.sliceAt, Instr.slice, run_underlying hu, hb, szOf_sound hT hsz]
  · rename_i id len e z b zz cc hq
    have hu : P.underlying t = some (.slice e) := (hT _ _ hq).d
    split at hk <;> try exact hk.elim
    rename_i e' z' cs sz hlk hsz
    obtain ⟨hcv, hlc⟩ := hc
    obtain ⟨c, _, hd0, _⟩ := F.hp.blk _ _ hlk
    have ha0 : (⟨R.ρ id, 0, none⟩ : Addr) = R.adr id 0 := by simp [Ren.adr, hd0]
    obtain ⟨h1, h2, h3, h4, hk⟩ := subS_sound hk hlc (by simp)
    refine Out.mk (u := .slice (some (if R.κ id = (l.getD 0).toNat then R.adr id 0 else (R.adr id 0).add ((l.getD 0).toNat * sz))) ((g.getD len).toNat - (l.getD 0).toNat) (R.κ id - (l.getD 0).toNat)) ?_ hk F ?_ hp0
    · have hb := run_bounds (P := P) (w := w) (isS := true) hl hg h1 h2 h3
      simp [execOp, ho, hcv, ha0, Instr.sliceAt, Instr.slice, run_underlying hu, hb, szOf_sound hT hsz]
      split <;> rfl
    · refine con_sub _ ?_ ⟨_, rfl⟩ (by simp) (by omega)
      intro hp
      have e1 : ¬ R.κ id = (l.getD 0).toNat := by omega
      rw [if_neg e1, adr_add]
  · rename_i id off n e z b zz cc hq
    have hu : P.underlying t = some (.array n e) := (hT _ _ hq).d
    split at hk <;> try exact hk.elim
    rename_i sz hsz
    simp only [conC] at hc
    obtain ⟨h1, h2, h3, h4, hk⟩ := subS_sound hk (Nat.le_refl n) (by simp)
    refine Out.mk (u := .slice (some (if n = (l.getD 0).toNat then R.adr id off else (R.adr id off).add ((l.getD 0).toNat * sz))) ((g.getD n).toNat - (l.getD 0).toNat) (n - (l.getD 0).toNat)) ?_ hk F ?_ hp0
    · have hb := run_bounds (P := P) (w := w) (isS := false) hl hg h1 h2 h3
      simp [execOp, ho, hc, Instr.sliceAt, Instr.sureAddr, run_underlying hu, hb, szOf_sound hT hsz]
    · refine con_sub _ ?_ ⟨_, rfl⟩ (by simp) (by omega)
      intro hp
      have e1 : ¬ n = (l.getD 0).toNat := by omega
      rw [if_neg e1, adr_add]
  · rename_i bs z b zz cc hq
    have hu : P.underlying t = some .string := (hT _ _ hq).d
    obtain ⟨⟨h1, h2, h3⟩, hk⟩ := hk
    simp only [conC] at hc
    refine Out.mk (u := .string (bs.extract (l.getD 0).toNat (g.getD bs.size).toNat)) ?_ hk F rfl trivial
    have hb := run_bounds (P := P) (w := w) (isS := false) hl hg h1 h2 h3
    simp [execOp, ho, hc, Instr.sliceAt, Instr.slice, run_underlying hu, hb]
  · rename_i id off len e z b zz cc hq
    have hu : P.underlying t = some (.slice e) := (hT _ _ hq).d
    split at hk <;> try exact hk.elim
    rename_i sz hsz
    simp only [conC] at hc
    rcases hc with ⟨ad, cp, hcv, had, hlc⟩ | ⟨h0, hcv⟩
    · obtain ⟨h1, h2, h3, h4, hk⟩ := subS_sound hk hlc (by simp)
      refine Out.mk (u := .slice (some (if cp = (l.getD 0).toNat then ad else ad.add ((l.getD 0).toNat * sz))) ((g.getD len).toNat - (l.getD 0).toNat) (cp - (l.getD 0).toNat)) ?_ hk F ?_ hp0
      · have hb := run_bounds (P := P) (w := w) (isS := true) hl hg h1 h2 h3
        simp [execOp, ho, hcv, Instr.sliceAt, Instr.slice, run_underlying hu, hb, szOf_sound hT hsz]
        split <;> rfl
      · refine .inl ⟨_, _, rfl, fun hp => ?_, by omega⟩
        have e1 : ¬ cp = (l.getD 0).toNat := by omega
        have e2 : 0 < len := by omega
        rw [if_neg e1, had e2, adr_add]
    · subst h0
      obtain ⟨h1, h2, h3, h4, hk⟩ := subS_sound hk (Nat.le_refl 0) (by simp)
      have e0 : g.getD ((0 : Nat) : Int) = 0 := by
        have h3' : g.getD ((0 : Nat) : Int) ≤ 0 := by simpa using h3
        omega
      have e1 : (l.getD 0).toNat = 0 := by omega
      have e2 : (g.getD ((0 : Nat) : Int)).toNat = 0 := by omega
      rw [e1, e2] at hk
      refine Out.mk (u := .slice none 0 0) ?_ hk F (.inr ⟨by simp, by simp⟩) hp0
      have hb := run_bounds (P := P) (w := w) (isS := true) hl hg h1 h2 h3
      rw [e1, e2] at hb
      simp [execOp, ho, hcv, Instr.sliceAt, Instr.slice, run_underlying hu, hb, szOf_sound hT hsz]

/-- The parts of a literal. -/
theorem lay_sound {place place' : Nat → Option (Nat × Nat)} (hpl : ∀ i x, place i = some x → place' i = some x) {kk : List AC → Prop} : ∀ (ps : List (Nat × Operand)) (cs : List AC) (vs : Array Value), Fit E R s a w → LL s.nx cs → vs.size = cs.length → conL R cs vs 0 → lay s place kk ps cs →
    ∃ cs' vs', kk cs' ∧ Instr.fill place' vs (ps.map fun p => (p.1, a.eval p.2)) = some vs' ∧ LL s.nx cs' ∧ vs'.size = cs'.length ∧ conL R cs' vs' 0
  | [], cs, vs, F, hl, hs, hc, h => ⟨cs, vs, h, rfl, hl, hs, hc⟩
  | (i, x) :: r, cs, vs, F, hl, hs, hc, h => by
    simp only [lay] at h
    split at h <;> try exact h.elim
    rename_i off z hp
    obtain ⟨v, hk, hcv, hlv⟩ := onV_sound F h
    clear h
    have key : ∀ gs : List AC, cellsOfV v = some gs → gs.length = z → off + z ≤ cs.length → lay s place kk r (cs.take off ++ gs ++ cs.drop (off + gs.length)) →
        ∃ cs' vs', kk cs' ∧ Instr.fill place' vs (((i, x) :: r).map fun p => (p.1, a.eval p.2)) = some vs' ∧ LL s.nx cs' ∧ vs'.size = cs'.length ∧ conL R cs' vs' 0 := by
      intro gs hgs hz hle hk2
      obtain ⟨h1, h2, _⟩ := cellsOfV_sound hgs hcv
      obtain ⟨f1, f2⟩ := Great.foldl_set off (a.eval x).cells.toList 0 vs
      have hlen : (cs.take off ++ gs ++ cs.drop (off + gs.length)).length = cs.length := by simp; omega
      have hlt : (a.eval x).cells.size = z := by omega
      obtain ⟨cs', vs', g1, g2, g3⟩ := lay_sound hpl r (cs.take off ++ gs ++ cs.drop (off + gs.length)) ((a.eval x).cells.zipIdx.foldl (fun cs (x : Value × Nat) => cs.setIfInBounds (off + x.2) x.1) vs) F
        (((hl.take _).app (cellsOfV_lt hgs hlv)).app (hl.drop _)) (by rw [hlen, ← hs]; rw [← Array.foldl_toList]; simpa using f1) (by
          intro j y hj
          rw [Nat.zero_add, ← Array.foldl_toList]
          have := f2 j
          simp only [Nat.add_zero, Array.length_toList] at this
          rw [show (a.eval x).cells.zipIdx.toList = (a.eval x).cells.toList.zipIdx 0 by simp, this]
          rw [List.append_assoc, List.getElem?_append] at hj
          simp only [List.length_take, List.getElem?_append, List.getElem?_drop, Nat.min_eq_left (show off ≤ cs.length by omega)] at hj
          by_cases q1 : j < off
          · rw [if_neg (by omega)]
            rw [if_pos q1, List.getElem?_take, if_pos q1] at hj
            obtain ⟨v', hv', hc'⟩ := hc j y hj
            exact ⟨v', by rwa [Nat.zero_add] at hv', hc'⟩
          · rw [if_neg q1] at hj
            by_cases q2 : j - off < gs.length
            · rw [if_pos q2] at hj
              rw [if_pos (by omega)]
              obtain ⟨v', hv', hc'⟩ := h2 _ y hj
              exact ⟨v', by rw [Nat.zero_add] at hv'; simpa using hv', hc'⟩
            · rw [if_neg q2] at hj
              rw [if_neg (by omega)]
              obtain ⟨v', hv', hc'⟩ := hc _ y hj
              refine ⟨v', ?_, hc'⟩
              rw [Nat.zero_add] at hv'
              rw [show j = off + gs.length + (j - off - gs.length) by omega]; exact hv') hk2
      refine ⟨cs', vs', g1, ?_, g3⟩
      simp only [List.map_cons, Instr.fill, hpl _ _ hp]
      rw [if_neg (by simp; omega)]
      exact g2
    split at hk <;> try exact hk.elim
    · rename_i c
      obtain ⟨⟨h1, h2⟩, hk⟩ := hk
      rw [set_eq c cs off h2] at hk
      exact key [c] rfl (by simp [h1]) (by omega) (by simpa using hk)
    · rename_i gs
      obtain ⟨⟨h1, h2⟩, hk⟩ := hk
      rw [wrn_eq gs cs off (by omega)] at hk
      exact key gs rfl h1 h2 hk

theorem run_mapM_fields (fields : Array Field) (h : ∀ f ∈ fields.toList, (P.info? f.type).isSome = true) (w : World) :
    (fields.mapM fun f => Prod.mk f.offset <$> sizeOf f.type : Sem (Array (Nat × Nat))).run P w = .ok (fields.map fun f => (f.offset, P.cellsOf f.type)) w := by
  rw [Array.mapM_eq_mapM_toList]
  have key : ∀ l : List Field, (∀ f ∈ l, (P.info? f.type).isSome = true) → (l.mapM fun f => Prod.mk f.offset <$> sizeOf f.type : Sem (List (Nat × Nat))).run P w = .ok (l.map fun f => (f.offset, P.cellsOf f.type)) w := by
    intro l hl
    induction l with
    | nil => rfl
    | cons f r ih =>
      have hf := hl f (by simp)
      obtain ⟨x, hx⟩ := Option.isSome_iff_exists.1 hf
      have ih := ih (fun g hg => hl g (by simp [hg]))
      rw [List.mapM_cons]
      have hsz : (sizeOf f.type).run P w = .ok (P.cellsOf f.type) w := by simp [sizeOf, typeInfo, hx, Program.cellsOf]
      simp only [Sem.run_bind, Sem.run_map, ih, hsz, Result.andThen_ok, Sem.run_pure, List.map_cons]
  rw [Sem.run_map, key fields.toList h]
  simp only [Result.andThen_ok]
  rw [← Array.toList_map, Array.toArray_toList]

theorem s_build (hT : TOk P T) {t : Nat} {ps : Array (Nat × Operand)} (ho : o.op = .build t ps) (F : Fit E R s a w) (h : stepA T md s (.build t ps) k) : Out P E a w o k := by
  simp only [stepA, AS.on_eq] at h
  split at h <;> try exact h.elim
  · rename_i fs sz b z cc hq
    have hI := hT _ _ hq
    obtain ⟨fields, hu, hfs, hfi⟩ := hI.d
    obtain ⟨z0, hz, hzs, hzc, hza⟩ := hI.zeroR w
    obtain ⟨cs', vs', g1, g2, g3, g4, g5⟩ := lay_sound (place' := fun i => (fields.map fun f => (f.offset, P.cellsOf f.type))[i]?) (by
      intro i x hx
      cases hq : fs[i]? with
      | none => simp [hq] at hx
      | some p =>
        obtain ⟨o, ft⟩ := p
        simp only [hq] at hx
        cases hz : szOf T ft with
        | none => simp [hz] at hx
        | some q =>
          simp only [hz, Option.map_some, Option.some.injEq] at hx
          subst hx
          have hc : P.cellsOf ft = q := by
            rw [szOf_eq] at hz
            cases hti : T ft with
            | none => simp [hti] at hz
            | some ii =>
              simp only [hti, Option.map_some, Option.some.injEq] at hz
              obtain ⟨xx, _, e1, e2, _⟩ := (hT _ _ hti).inf
              simp [Program.cellsOf, e1, e2, hz]
          rw [← hfs, List.getElem?_map] at hq
          cases hfl : fields.toList[i]? with
          | none => simp [hfl] at hq
          | some fl =>
            simp only [hfl, Option.map_some, Option.some.injEq, Prod.mk.injEq] at hq
            have : fields[i]? = some fl := by simpa using hfl
            simp [this, hq.1, hq.2, hc]) ps.toList _ _ F (hI.zlt _) hzs (hzc R) h
    refine Out.mk (u := .agg vs') ?_ g1 F ⟨_, rfl, g4, g5⟩ g3
    have hm := run_mapM_fields (P := P) fields (by
      intro f hf
      have := hfi (f.offset, f.type) (by rw [← hfs]; exact List.mem_map.2 ⟨f, hf, rfl⟩)
      exact this) w
    simp [execOp, ho, Instr.build, hz, run_underlying hu, hm]
    simp at g2
    simp [g2]
  · rename_i n e sz b z cc hq
    have hI := hT _ _ hq
    have hu : P.underlying t = some (.array n e) := hI.d
    obtain ⟨z0, hz, hzs, hzc, hza⟩ := hI.zeroR w
    split at h <;> try exact h.elim
    rename_i w0 hw0
    obtain ⟨cs', vs', g1, g2, g3, g4, g5⟩ := lay_sound (place' := fun i => some (i * w0, w0)) (fun _ _ h => h) ps.toList _ _ F (hI.zlt _) hzs (hzc R) h
    refine Out.mk (u := .agg vs') ?_ g1 F ⟨_, rfl, g4, g5⟩ g3
    have : (ps.map fun p => (p.1, a.eval p.2)).toList = ps.toList.map fun p => (p.1, a.eval p.2) := by simp
    simp [execOp, ho, Instr.build, hz, run_underlying hu, szOf_sound hT hw0]
    simp [g2]

end Go.AH
