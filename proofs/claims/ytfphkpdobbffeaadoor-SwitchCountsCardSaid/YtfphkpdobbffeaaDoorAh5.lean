/-
  The steps of A3 are what the machine does.
-/
import Derived.Test.YtfphkpdobbffeaaDoorAh4
set_option linter.unusedSimpArgs false
set_option linter.unusedVariables false
namespace Go.AH
open Go.RowKit

variable {P : Program} {T : Nat → Option TI} {md : Bool} {E : Env} {R : Ren} {s : AS} {a : Act} {w : World}

theorem kv_sound {x : Value} {v : AV} (h : kv x = some v) (R : Ren) (n : Nat) : conV R v x ∧ v.lt n := by
  unfold kv at h
  split at h <;> first | (cases h; done) | (injection h with h; subst h; simp [conV, conC, AV.lt, AC.lt])

theorem ev_sound {x : Operand} {v : AV} (F : Fit E R s a w) (h : ev s x = some v) : conV R v (a.eval x) ∧ v.lt s.nx := by
  cases x with
  | tmp t =>
    obtain ⟨u, hu, hc⟩ := F.tm t v h
    refine ⟨?_, F.wf.tm t v h⟩
    rw [show a.eval (.tmp t) = u by simp [Act.eval, Array.getD_eq_getD_getElem?, hu]]; exact hc
  | const x => exact kv_sound h R _
  | global g =>
    simp only [ev, Option.some.injEq] at h; subst h
    refine ⟨?_, .inr (Nat.le_add_right _ _)⟩
    simp [conV, conC, Ren.adr, F.ok.g, F.ok.d, Act.eval]
  | func f =>
    simp only [ev, Option.some.injEq] at h; subst h
    exact ⟨by simp [conV, conC, Act.eval], by simp [AV.lt, AC.lt]⟩

theorem onV_sound {x : Operand} {k : AV → Prop} (F : Fit E R s a w) (h : onV s x k) : ∃ v, k v ∧ conV R v (a.eval x) ∧ v.lt s.nx := by
  unfold onV at h
  split at h
  · rename_i v hv; exact ⟨v, h, ev_sound F hv⟩
  · exact h.elim
theorem onC_sound {x : Operand} {k : AC → Prop} (F : Fit E R s a w) (h : onC s x k) : ∃ v, k v ∧ conC R v (a.eval x) ∧ v.lt s.nx := by
  unfold onC at h
  split at h
  · rename_i v hv; exact ⟨v, h, ev_sound F hv⟩
  · exact h.elim

/-- What a step owes. -/
def Out (P : Program) (E : Env) (a : Act) (w : World) (o : Oper) (k : AV → AS → Prop) : Prop :=
  ∃ nx w' u R' s' v, (execOp a.eval o).run P w = .ok nx w' ∧ (nx = .value u ∨ nx = .skip ∧ u = undef) ∧ k v s' ∧ Fit E R' s' a w' ∧ conV R' v u ∧ v.lt s'.nx

theorem Out.mk {o : Oper} {k : AV → AS → Prop} {u : Value} {v : AV} (h : (execOp a.eval o).run P w = .ok (.value u) w) (hk : k v s) (F : Fit E R s a w) (hc : conV R v u) (hl : v.lt s.nx) : Out P E a w o k :=
  ⟨_, w, u, R, s, v, h, .inl rfl, hk, F, hc, hl⟩

/-- A block is made. -/
theorem Fit.new (F : Fit E R s a w) (hG : s.nx < GB) {cs : List AC} {vs : Array Value} (hs : vs.size = cs.length) (hc : conL R cs vs 0) (hl : LL s.nx cs) (t : TypeId) :
    Fit E (R.set s.nx w.heap.size 0 0) { s with hp := (s.nx, .own cs) :: s.hp, nx := s.nx + 1 } a (w.alloc (.cells vs t)) := by
  have hag := Ren.set_agree R s.nx w.heap.size 0 0 hG
  have hf : lk s.hp s.nx = none := by
    cases hq : lk s.hp s.nx with
    | none => rfl
    | some b => have := F.nx _ _ hq; omega
  have F1 := (F.keep0 (w.grownBy_alloc (.cells vs t) none)).ren hag (Ren.set_ok _ _ _ _ hG F.ok) (Nat.le_succ s.nx) (show s.nx + 1 ≤ GB by omega)
  refine F1.add hf ?_ (fun _ => .inr ?_) ?_ (.inl (Nat.lt_succ_self _)) (LL.mono hl (Nat.le_succ _))
  · refine ⟨vs, t, ?_, by simp, hs, hc.agree hag hl⟩
    rw [Ren.set_ρ]; exact World.alloc_heap_new w _
  · rw [Ren.set_ρ]; exact F.fr.size
  · intro j c hj _
    rw [Ren.set_ρ, (hag j (F.wf.hp j c hj).1).1]
    exact fun e => absurd (F.hp.blk j c hj).lt (by omega)

/-- A block that is the activation's to write becomes another. -/
theorem Fit.wrote {w' : World} {id : Nat} {b b' : ABlk} (F : Fit E R s a w) (hid : lk s.hp id = some b) (hw : b.wr = true) (hg : w.grownBy w' (some (R.ρ id)))
    (hndf : ∀ ds, w.heap[R.ρ id]? ≠ some (.deferred ds)) (hb : BRel R id w' b') (hw' : b'.wr = true) (hl : b'.lt s.nx) : Fit E R { s with hp := up s.hp id b' } a w' := by
  have F1 := F.keep hid hw hg hndf
  have F2 : Fit E R { s with hp := (id, b') :: del s.hp id } a w' := by
    refine F1.add (by simp [lk_del]) hb (fun _ => F.wr id b hid hw) ?_ (F.wf.hp id b hid).1 hl
    intro j c hj _
    simp only [lk_del] at hj
    split at hj
    · cases hj
    · rename_i hne; exact F.hp.inj id j b c hid hj hne hw
  refine F2.hp_congr fun i => ?_
  simp only [lk_up, lk, lk_del]
  split <;> rfl

theorem onCells_sound {id : Nat} {k : ABlk → List AC → Prop} (F : Fit E R s a w) (h : onCells s id k) :
    ∃ b cs, k b cs ∧ lk s.hp id = some b ∧ b.cells = some cs ∧ BRel R id w b ∧ b.lt s.nx := by
  unfold onCells at h
  split at h
  · rename_i cs hq; exact ⟨_, cs, h, hq, rfl, F.hp.blk _ _ hq, (F.wf.hp _ _ hq).2⟩
  · rename_i cs hq; exact ⟨_, cs, h, hq, rfl, F.hp.blk _ _ hq, (F.wf.hp _ _ hq).2⟩
  · rename_i e z cs hq; exact ⟨_, cs, h, hq, rfl, F.hp.blk _ _ hq, (F.wf.hp _ _ hq).2⟩
  · exact h.elim

theorem cells_notdf {b : ABlk} {cs : List AC} {id : Nat} (h : BRel R id w b) (hb : b.cells = some cs) : ∀ ds, w.heap[R.ρ id]? ≠ some (.deferred ds) := by
  obtain ⟨c, t, z, hh, _⟩ := h.cell hb
  intro ds; rw [hh]; simp

section steps
variable {o : Oper} {k : AV → AS → Prop}

theorem s_move {x : Operand} (ho : o.op = .move x ∨ o.op = .assign x) (F : Fit E R s a w) (h : onV s x fun v => k v s) : Out P E a w o k := by
  obtain ⟨v, hk, hc, hl⟩ := onV_sound F h
  refine Out.mk (u := a.eval x) ?_ hk F hc hl
  rcases ho with ho | ho <;> simp [execOp, ho]

theorem s_pick {c x y : Operand} (ho : o.op = .pick c x y) (F : Fit E R s a w) (h : stepA T md s (.pick c x y) k) : Out P E a w o k := by
  simp only [stepA, AS.on_eq] at h
  obtain ⟨q, hk, hc, hq0⟩ := onC_sound F h
  split at hk <;> try exact hk.elim
  rename_i q
  simp only [conC] at hc
  obtain ⟨va, hk, hca, hla⟩ := onV_sound F hk
  obtain ⟨vb, hk, hcb, hlb⟩ := onV_sound F hk
  have hr : (execOp a.eval o).run P w = .ok (.value (if q then a.eval x else a.eval y)) w := by
    simp [execOp, ho, hc, asBool]
  split at hk
  · rename_i p r
    simp only [conV, conC] at hca hcb
    refine Out.mk hr hk F ?_ trivial
    rw [hca, hcb]
    cases q <;> rfl
  · cases q with
    | true => exact Out.mk hr (hk.1 rfl) F hca hla
    | false => exact Out.mk hr (hk.2 rfl) F hcb hlb

theorem s_alloc (hT : TOk P T) {e : Nat} (ho : o.op = .alloc e) (F : Fit E R s a w) (h : stepA T md s (.alloc e) k) : Out P E a w o k := by
  simp only [stepA, AS.on_eq] at h
  split at h
  · rename_i d' sz' by' zz' cmp' hi
    replace h := lit_iff.1 h
    rw [decide_eq_true_eq] at h
    obtain ⟨z, hz, hs, hc, _⟩ := (hT e _ hi).zeroR w
    refine ⟨.value (.pointer (some ⟨w.heap.size, 0, none⟩)), w.alloc (.cells z.cells e), _, R.set s.nx w.heap.size 0 0, _, _, ?_, .inl rfl, h.2, F.new h.1 hs (hc R) ((hT e _ hi).zlt _) e, ?_, .inl (Nat.lt_succ_self _)⟩
    · simp [execOp, ho, Instr.alloc, hz, newVar, newRow]
    · simp [conV, conC, Ren.adr, Ren.set]
  · exact h.elim

theorem cellsOfV_sound {v : AV} {u : Value} {cs : List AC} (h : cellsOfV v = some cs) (hc : conV R v u) : u.cells.size = cs.length ∧ conL R cs u.cells 0 ∧ ∀ x ∈ u.cells, x.oneCell' = true := by
  cases v with
  | c x =>
    simp only [cellsOfV, Option.some.injEq] at h; subst h
    rw [conC.cells hc]
    refine ⟨rfl, ?_, by simp; exact conC.one hc⟩
    intro i y hi
    cases i with
    | zero => simp only [List.getElem?_cons_zero, Option.some.injEq] at hi; subst hi; exact ⟨u, rfl, hc⟩
    | succ i => simp at hi
  | g cs' =>
    simp only [cellsOfV, Option.some.injEq] at h; subst h
    obtain ⟨vs, rfl, h1, h2⟩ := hc
    refine ⟨h1, h2, ?_⟩
    intro x hx
    obtain ⟨j, hj⟩ := Array.mem_iff_getElem?.1 hx
    have hlt : j < cs'.length := by have := (Array.getElem?_eq_some_iff.1 hj).1; simp [Value.cells] at this; omega
    obtain ⟨v, hv, hcv⟩ := h2 j _ (List.getElem?_eq_getElem hlt)
    rw [Nat.zero_add] at hv
    simp only [Value.cells] at hj
    rw [hv] at hj; injection hj with hj; exact hj ▸ hcv.one
  | t es => cases h
theorem cellsOfV_lt {v : AV} {cs : List AC} {n : Nat} (h : cellsOfV v = some cs) (hl : v.lt n) : LL n cs := by
  cases v with
  | c x => simp only [cellsOfV, Option.some.injEq] at h; subst h; exact LL.one hl
  | g cs' => simp only [cellsOfV, Option.some.injEq] at h; subst h; exact hl
  | t es => cases h

theorem s_box {e : Nat} {x : Operand} (ho : o.op = .box e x) (F : Fit E R s a w) (h : stepA T md s (.box e x) k) : Out P E a w o k := by
  simp only [stepA, AS.on_eq] at h
  obtain ⟨v, hk, hc, hl⟩ := onV_sound F h
  split at hk
  · rename_i cs hcs
    replace hk := lit_iff.1 hk
    rw [decide_eq_true_eq] at hk
    obtain ⟨h1, h2, _⟩ := cellsOfV_sound hcs hc
    refine ⟨.value (.pointer (some ⟨w.heap.size, 0, none⟩)), w.alloc (.cells (a.eval x).cells e), _, R.set s.nx w.heap.size 0 0, _, _, ?_, .inl rfl, hk.2, F.new hk.1 h1 h2 (cellsOfV_lt hcs hl) e, ?_, .inl (Nat.lt_succ_self _)⟩
    · simp [execOp, ho, Instr.box, newVar, newRow]
    · simp [conV, conC, Ren.adr, Ren.set]
  · exact hk.elim

theorem load_sound (hT : TOk P T) {t : Nat} {x : Operand} (F : Fit E R s a w) (h : stepA T md s (.load t x) k) :
    ∃ u v ad, a.eval x = .pointer (some ad) ∧ (loadVar t ad).run P w = .ok u w ∧ k v s ∧ conV R v u ∧ v.lt s.nx := by
  simp only [stepA, AS.on_eq] at h
  obtain ⟨p, hk, hc, hp0⟩ := onC_sound F h
  split at hk <;> try exact hk.elim
  rename_i id off
  simp only [conC] at hc
  obtain ⟨b, cs, hk, hid, hb, hB, hbl⟩ := onCells_sound F hk
  split at hk <;> try exact hk.elim
  rename_i i hi
  have hI := hT t i hi
  have hcl := ABlk.lt_cells hbl hb
  have agg : i.agg = true → ∀ n, n = i.size → off + n ≤ cs.length → ∃ u, (loadVar t (R.adr id off)).run P w = .ok u w ∧ conV R (.g ((cs.drop off).take n)) u := by
    intro hag n hn hle
    obtain ⟨vs, hv1, hv2, _, hv3, _⟩ := run_cells (P := P) hB hb off n hle
    refine ⟨.agg vs.toArray, ?_, ⟨_, rfl, ?_, hv3⟩⟩
    · simp [loadVar, hI.aggR, hag, hI.size, ← hn, hv2]
    · simp [hv1]; omega
  split at hk
  · rename_i hag
    split at hk <;> try exact hk.elim
    rename_i z hz
    obtain ⟨v, hv, hcv⟩ := run_cell hB hb off hk.1 z
    refine ⟨v, _, _, hc, ?_, hk.2, hcv, hcl.getD off z hk.1⟩
    simp [loadVar, hI.aggR, hag, hv]
  · rename_i hag
    split at hk
    · rename_i h6
      obtain ⟨⟨h1, h2⟩, hk⟩ := hk
      obtain ⟨u, hu, hcu⟩ := agg hag i.size rfl h1
      rw [rdn_eq cs i.zero off (by omega), h2] at hk
      exact ⟨u, _, _, hc, hu, hk, hcu, ((hcl.drop off).take _)⟩
    · split at hk
      · obtain ⟨h1, hk⟩ := hk
        obtain ⟨u, hu, hcu⟩ := agg hag i.size rfl (by omega)
        rw [List.drop_zero, List.take_of_length_le (by omega)] at hcu
        exact ⟨u, _, _, hc, hu, hk, hcu, hcl⟩
      · rename_i off'
        obtain ⟨u, hu, hcu⟩ := agg hag i.size rfl hk.1
        exact ⟨u, _, _, hc, hu, hk.2, hcu, ((hcl.drop _).take _)⟩

theorem s_load (hT : TOk P T) {t : Nat} {x : Operand} (ho : o.op = .load t x) (F : Fit E R s a w) (h : stepA T md s (.load t x) k) : Out P E a w o k := by
  obtain ⟨u, v, ad, h1, h2, h3, h4, h5⟩ := load_sound (P := P) hT F h
  exact Out.mk (u := u) (by simp [execOp, ho, h1, Instr.loadAt, Instr.sureAddr, h2]) h3 F h4 h5

/-- A value is stored at a place of a block. -/
theorem store_ok (hT : TOk P T) {t id off : Nat} {x y : Operand} {i : TI} (ho : o.op = .store t x y) (F : Fit E R s a w) (hx : a.eval x = .pointer (some (R.adr id off))) {b : ABlk} {cs gs : List AC} {v : AV}
    (hid : lk s.hp id = some b) (hb : b.cells = some cs) (hw : b.wr = true) (hi : T t = some i) (hv : cellsOfV v = some gs) (hc : conV R v (a.eval y)) (hl : v.lt s.nx) (hsz : gs.length = i.size) (hn : off + gs.length ≤ cs.length)
    (hk : k (.t []) { s with hp := up s.hp id (b.with (cs.take off ++ gs ++ cs.drop (off + gs.length))) }) : Out P E a w o k := by
  obtain ⟨h1, h2, h3⟩ := cellsOfV_sound hv hc
  have hB := F.hp.blk _ _ hid
  obtain ⟨c, ty, hh, hle, hd, hB'⟩ := hB.splice hb hw off gs (a.eval y).cells.toList (by simpa using h1) (by simpa using h2) hn
  have hst := run_storeCells_at P (R.ρ id) off ty (a.eval y).cells.toList 0 c w hh (by simpa using hle) (fun v hv => h3 v (by simpa using hv))
  refine ⟨.skip, _, undef, R, _, _, ?_, .inr ⟨rfl, rfl⟩, hk, F.wrote hid hw (grownBy_setRow w (R.ρ id) _) (cells_notdf hB hb) hB' (by rw [ABlk.with_wr, hw]) ?_, ?_, ?_⟩
  · have : R.adr id off = ⟨R.ρ id, off, none⟩ := by simp [Ren.adr, hd]
    simp only [Nat.add_zero] at hst
    simp [execOp, ho, hx, Instr.storeAt, Instr.sureAddr, storeVar, (hT t i hi).size, h1, hsz, this, hst]
  · refine ABlk.with_lt hb ?_
    have hcl := ABlk.lt_cells (F.wf.hp _ _ hid).2 hb
    exact ((hcl.take _).app (cellsOfV_lt hv hl)).app (hcl.drop _)
  · exact ⟨#[], rfl, rfl, by simp⟩
  · intro e he; cases he

theorem s_store (hT : TOk P T) {t : Nat} {x y : Operand} (ho : o.op = .store t x y) (F : Fit E R s a w) (h : stepA T md s (.store t x y) k) : Out P E a w o k := by
  simp only [stepA, AS.on_eq] at h
  obtain ⟨p, hk, hcx, hp0⟩ := onC_sound F h
  obtain ⟨v, hk, hc, hl⟩ := onV_sound F hk
  split at hk <;> try exact hk.elim
  rename_i id off hx0
  simp only [conC] at hcx
  obtain ⟨b, cs, hk, hid, hb, hB, hbl⟩ := onCells_sound F hk
  obtain ⟨hw, hk⟩ := hk
  split at hk <;> try exact hk.elim
  rename_i i hi
  split at hk <;> try exact hk.elim
  · rename_i c hx1
    obtain ⟨⟨h1, h2⟩, hk⟩ := hk
    rw [set_eq c cs off h2] at hk
    exact store_ok hT ho F hcx hid hb hw hi (gs := [c]) rfl hc hl (by simp [h1]) (by simpa using h2) (by simpa using hk)
  · rename_i gs hx1
    split at hk
    · obtain ⟨⟨h1, h2⟩, hk⟩ := hk
      rw [wrn_eq gs cs off (by omega)] at hk
      exact store_ok hT ho F hcx hid hb hw hi (gs := gs) rfl hc hl h1 (by omega) hk
    · split at hk
      · obtain ⟨⟨h1, h2⟩, hk⟩ := hk
        refine store_ok hT ho F hcx hid hb hw hi (gs := gs) rfl hc hl h1 (by omega) ?_
        rw [List.drop_of_length_le (by omega)]
        simpa using hk
      · obtain ⟨⟨h1, h2⟩, hk⟩ := hk
        refine store_ok hT ho F hcx hid hb hw hi (gs := gs) rfl hc hl h1 (by omega) ?_
        rw [h1]; exact hk

end steps
end Go.AH
