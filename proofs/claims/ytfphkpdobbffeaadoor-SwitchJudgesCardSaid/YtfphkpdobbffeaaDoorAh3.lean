/-
  The steps of A3 are what the machine does: slices made and grown; all steps together.
-/
import Derived.Test.YtfphkpdobbffeaaDoorAh2
import Derived.Lib.AppendZerosOnto
import Derived.Laws.MakeOwn
import Derived.Laws.AppendOwnNone
import Derived.Shelf.Abstract
set_option linter.unusedSimpArgs false
set_option linter.unusedVariables false
namespace Go.AH
open Go.RowKit

variable {P : Program} {T : Nat → Option TI} {md : Bool} {E : Env} {R : Ren} {s : AS} {a : Act} {w : World} {o : Oper} {k : AV → AS → Prop}

theorem rep_get (z : List AC) (hz : 0 < z.length) : ∀ (n j : Nat), (rep n z)[j]? = if j < n * z.length then z[j % z.length]? else none
  | 0, j => by simp [rep]
  | n + 1, j => by
    rw [rep, List.getElem?_append]
    by_cases h : j < z.length
    · rw [if_pos h, if_pos (by rw [Nat.add_mul]; omega), Nat.mod_eq_of_lt h]
    · rw [if_neg h, rep_get z hz n]
      have : j - z.length < n * z.length ↔ j < (n + 1) * z.length := by rw [Nat.add_mul]; omega
      simp only [this]
      rw [Nat.mod_eq_sub_mod (by omega : j ≥ z.length)]
theorem rep_len (z : List AC) : ∀ n, (rep n z).length = n * z.length
  | 0 => by simp [rep]
  | n + 1 => by rw [rep, List.length_append, rep_len z n, Nat.add_mul]; omega
theorem rep_lt {n : Nat} {z : List AC} (h : LL n z) : ∀ m, LL n (rep m z)
  | 0 => by intro x hx; cases hx
  | m + 1 => h.app (rep_lt h m)

theorem s_buildSlice (hT : TOk P T) {t len : Nat} {ps : Array (Nat × Operand)} (ho : o.op = .buildSlice t len ps) (F : Fit E R s a w) (h : stepA T md s (.buildSlice t len ps) k) : Out P E a w o k := by
  simp only [stepA, AS.on_eq] at h
  split at h <;> try exact h.elim
  rename_i e sz b z cc hq
  have hu : P.underlying t = some (.slice e) := (hT _ _ hq).d
  split at h <;> try exact h.elim
  rename_i i hi
  have hI := hT _ _ hi
  obtain ⟨⟨hG, h1, h2, h3⟩, h⟩ := h
  obtain ⟨z0, hz, hzs, hzc, hza⟩ := hI.zeroR w
  have hpos : 0 < i.zero.length := by omega
  have hzz : z0.cells.size = i.size := by omega
  obtain ⟨cs', vs', g1, g2, g3, g4, g5⟩ := lay_sound (place' := fun j => some (j * i.size, i.size)) (fun _ _ h => h) ps.toList (rep len i.zero) ((Array.range (len * i.size)).map (z0.cells[· % z0.cells.size]!)) F
    (rep_lt (hI.zlt _) len) (by simp [rep_len, h2]) (by
      intro j x hj
      rw [rep_get _ hpos] at hj
      split at hj
      · rename_i hlt
        obtain ⟨v, hv, hc⟩ := hzc R (j % i.zero.length) x hj
        refine ⟨v, ?_, hc⟩
        rw [Nat.zero_add] at hv ⊢
        rw [Array.getElem?_map, Array.getElem?_range, if_pos (by rw [← h2]; exact hlt)]
        simp only [Option.map_some, hzs]
        rw [getElem!_def, hv]
      · cases hj) h
  refine ⟨.value (.slice (some ⟨w.heap.size, 0, none⟩) len len), w.alloc (.cells vs' e), _, R.set s.nx w.heap.size 0 0, _, _, ?_, .inl rfl, g1, F.new hG g4 g5 g3 e, ?_, .inl (Nat.lt_succ_self _)⟩
  · have hle : ¬ (len * i.size > 2 ^ 24) := by omega
    have g2' := g2
    simp only [hzz] at g2'
    have hps : (ps.map fun (i, x) => (i, a.eval x)).toList = ps.toList.map fun p => (p.1, a.eval p.2) := by simp
    by_cases hl0 : len * i.size = 0
    · have hr : (Array.range (len * i.size)).map (fun x => (#[] : Array Value)[x % (#[] : Array Value).size]!) = (Array.range (len * i.size)).map (z0.cells[· % i.size]!) := by
        rw [hl0]; simp
      unfold execOp Instr.buildSlice
      simp only [ho, Sem.run_bind, run_underlying hu, Result.andThen_ok, hI.size, if_neg hle, if_pos hl0, Sem.run_pure, hps, hr, g2']
      simp [newRow]
    · unfold execOp Instr.buildSlice
      simp only [ho, Sem.run_bind, run_underlying hu, Result.andThen_ok, hI.size, if_neg hle, if_neg hl0, hz, Sem.run_pure, hps, hzz, g2']
      simp [newRow]
  · exact ⟨_, len, rfl, by simp, by simp [Ren.adr, Ren.set], Nat.le_refl _⟩

theorem s_makeSlice (hT : TOk P T) {t : Nat} {x y : Operand} (ho : o.op = .makeSlice t x y) (F : Fit E R s a w) (h : stepA T md s (.makeSlice t x y) k) : Out P E a w o k := by
  simp only [stepA, AS.on_eq] at h
  obtain ⟨p, hA, hc, hp0⟩ := onC_sound F h
  clear h
  obtain ⟨q, hk, hd, hq0⟩ := onC_sound F hA
  clear hA
  split at hk <;> try exact hk.elim
  rename_i kl l kc c e sz b z cc hq
  have hu : P.underlying t = some (.slice e) := (hT _ _ hq).d
  split at hk <;> try exact hk.elim
  rename_i i hi
  have hI := hT _ _ hi
  obtain ⟨⟨hG, h1, h2, h3, h4, h5, h6⟩, hk⟩ := hk
  obtain ⟨inf, z0, hinf, e1, e2, hz0, hzs, hzc, _, _⟩ := hI.inf
  have hpos : 0 < i.zero.length := by omega
  simp only [conC] at hc hd
  have hr := run_make (P := P) w t e inf z0 hu hinf hz0 kl kc l c h3 (by omega) (by rw [e2]; exact h5) h6
  refine ⟨.value (.slice (some ⟨w.heap.size, 0, none⟩) l.toNat c.toNat), w.alloc (.cells (madeCells z0.cells (c.toNat * inf.size)) e), _, R.set s.nx w.heap.size 0 0, _, _, ?_, .inl rfl, hk, F.new (cs := rep c.toNat i.zero) hG (by rw [size_madeCells, rep_len, h2, e1]) ?_ (rep_lt (hI.zlt _) _) e, ?_, .inl (Nat.lt_succ_self _)⟩
  · simp [execOp, ho, hc, hd, hr]
  · intro j v hj
    rw [rep_get _ hpos] at hj
    split at hj
    · rename_i hlt
      obtain ⟨u, hu, hcu⟩ := hzc R (j % i.zero.length) v hj
      refine ⟨u, ?_, hcu⟩
      rw [Nat.zero_add] at hu ⊢
      unfold madeCells
      rw [Array.getElem?_map, Array.getElem?_range, if_pos (by rw [e1, ← h2]; exact hlt)]
      simp only [Option.map_some]
      rw [hzs, getElem!_def, hu]
    · cases hj
  · exact ⟨_, c.toNat, rfl, by simp, by simp [Ren.adr, Ren.set], by omega⟩

theorem s_len (hT : TOk P T) {t : Nat} {x : Operand} {c : Call} (hc0 : c = { callee := .builtin .len, args := #[x], argTypes := #[t] }) (ho : o.op = .call c) (F : Fit E R s a w) (h : stepA T md s (.call c) k) : Out P E a w o k := by
  subst hc0
  simp only [stepA, AS.on_eq] at h
  obtain ⟨p, hk, hc, hp0⟩ := onV_sound F h
  clear h
  split at hk <;> try exact hk.elim
  · rename_i id off n cap e sz b z cc hq
    have hu : P.underlying t = some (.slice e) := (hT _ _ hq).d
    obtain ⟨ad, cp, hcv, _⟩ := hc
    exact Out.mk (u := .int .i64 n) (by simp [execOp, ho, resolve, invoke, builtin, Builtin.len_, hcv, run_underlying hu, goInt]) hk F rfl trivial
  · rename_i id n e sz b z cc hq
    have hu : P.underlying t = some (.slice e) := (hT _ _ hq).d
    obtain ⟨hcv, _⟩ := hc
    exact Out.mk (u := .int .i64 n) (by simp [execOp, ho, resolve, invoke, builtin, Builtin.len_, hcv, run_underlying hu, goInt]) hk F rfl trivial
  · rename_i e sz b z cc hq
    have hu : P.underlying t = some (.slice e) := (hT _ _ hq).d
    simp only [conV, conC] at hc
    exact Out.mk (u := .int .i64 0) (by simp [execOp, ho, resolve, invoke, builtin, Builtin.len_, hc, run_underlying hu, goInt]) hk F rfl trivial
  · rename_i bs sz b z cc hq
    have hu : P.underlying t = some .string := (hT _ _ hq).d
    simp only [conV, conC] at hc
    exact Out.mk (u := .int .i64 bs.size) (by simp [execOp, ho, resolve, invoke, builtin, Builtin.len_, hc, run_underlying hu, goInt]) hk F rfl trivial
  · rename_i id off n e sz b z cc hq
    have hu : P.underlying t = some (.slice e) := (hT _ _ hq).d
    rcases hc with ⟨ad, cp, hcv, _⟩ | ⟨h0, hcv⟩
    · exact Out.mk (u := .int .i64 n) (by simp [execOp, ho, resolve, invoke, builtin, Builtin.len_, hcv, run_underlying hu, goInt]) hk F rfl trivial
    · subst h0
      exact Out.mk (u := .int .i64 (0 : Nat)) (by simp [execOp, ho, resolve, invoke, builtin, Builtin.len_, hcv, run_underlying hu, goInt]) hk F rfl trivial
  · rename_i id off n cp z e zz b zzz cc hq
    have hu : P.underlying t = some (.slice e) := (hT _ _ hq).d
    obtain ⟨hcv, _⟩ := hc
    exact Out.mk (u := .int .i64 n) (by simp [execOp, ho, resolve, invoke, builtin, Builtin.len_, hcv, run_underlying hu, goInt]) hk F rfl trivial
  · rename_i q e sz b z cc hq
    have hu : P.underlying t = some (.slice e) := (hT _ _ hq).d
    obtain ⟨ad, cp, hcv⟩ := KR.slice hc
    exact Out.mk (u := .int .i64 q.len) (by simp [execOp, ho, resolve, invoke, builtin, Builtin.len_, hcv, run_underlying hu, goInt]) hk F rfl trivial

theorem s_min {x y : Operand} {ts : Array TypeId} {c : Call} (hc0 : c = { callee := .builtin .min, args := #[x, y], argTypes := ts }) (ho : o.op = .call c) (F : Fit E R s a w) (h : stepA T md s (.call c) k) : Out P E a w o k := by
  subst hc0
  simp only [stepA, AS.on_eq] at h
  obtain ⟨p, hA, hc, hp0⟩ := onC_sound F h
  clear h
  obtain ⟨q, hk, hd, hq0⟩ := onC_sound F hA
  clear hA
  split at hk <;> try exact hk.elim
  rename_i k1 x1 k2 y1
  obtain ⟨rfl, hk⟩ := hk
  simp only [conC] at hc hd
  refine Out.mk (u := .int k1 (min x1 y1)) ?_ hk F rfl trivial
  simp [execOp, ho, resolve, invoke, builtin, Builtin.min_, Builtin.min2, hc, hd]
  rw [Int.min_def]; split <;> split <;> omega
theorem s_max {x y : Operand} {ts : Array TypeId} {c : Call} (hc0 : c = { callee := .builtin .max, args := #[x, y], argTypes := ts }) (ho : o.op = .call c) (F : Fit E R s a w) (h : stepA T md s (.call c) k) : Out P E a w o k := by
  subst hc0
  simp only [stepA, AS.on_eq] at h
  obtain ⟨p, hA, hc, hp0⟩ := onC_sound F h
  clear h
  obtain ⟨q, hk, hd, hq0⟩ := onC_sound F hA
  clear hA
  split at hk <;> try exact hk.elim
  rename_i k1 x1 k2 y1
  obtain ⟨rfl, hk⟩ := hk
  simp only [conC] at hc hd
  refine Out.mk (u := .int k1 (max x1 y1)) ?_ hk F rfl trivial
  simp [execOp, ho, resolve, invoke, builtin, Builtin.max_, Builtin.max2, hc, hd]
  rw [Int.max_def]; split <;> split <;> omega

theorem newsOf_sound (P : Program) {q : AC} {z : Nat} {kk : Nat → List AC → Prop} {u : Value} (F : Fit E R s a w) (hc : conC R q u) (h : stepA.newsOf s q z kk) :
    ∃ m nw, kk m nw ∧ LL s.nx nw ∧ nw.length = m * z ∧ ((u = .slice none 0 0 ∧ m = 0) ∨ ∃ ad c, ∃ news : List Value, u = .slice (some ad) m c ∧ news.length = m * z ∧ (∀ j v, news[j]? = some v → w.cell? (ad.add j) = some v) ∧
      conL R nw news.toArray 0 ∧ ∀ v ∈ news, v.oneCell' = true) := by
  cases q <;> simp only [stepA.newsOf] at h <;> try exact h.elim
  · rename_i id off len cap
    obtain ⟨b, cs, ⟨h1, hk⟩, hid, hb, hB, hbl⟩ := onCells_sound F h
    obtain ⟨ad, cp, hv, _, had, _⟩ := hc
    obtain ⟨vs, e1, _, e2, e3, e4⟩ := run_cells (P := P) hB hb off (len * z) h1
    refine ⟨len, _, hk, ((ABlk.lt_cells hbl hb).drop _).take _, by simp; omega, .inr ⟨ad, cp, vs, hv, e1, ?_, e3, e4⟩⟩
    intro j v hj
    by_cases hl : 0 < len
    · rw [had hl]; exact e2 j v hj
    · have : vs = [] := List.eq_nil_of_length_eq_zero (by rw [e1]; have : len = 0 := by omega
                                                          simp [this])
      subst this; simp at hj
  · rename_i id len
    split at h <;> try exact h.elim
    rename_i e' z' cs hlk
    obtain ⟨h1, hk⟩ := h
    have hB := F.hp.blk _ _ hlk
    have hbl := (F.wf.hp _ _ hlk).2
    have hd0 : R.δ id = 0 := by obtain ⟨_, _, hd0, _⟩ := hB; exact hd0
    obtain ⟨vs, e1, _, e2, e3, e4⟩ := run_cells (P := P) hB (b := .row e' z' cs) rfl 0 (len * z) (by omega)
    refine ⟨len, _, hk, LL.take hbl _, by simp; omega, .inr ⟨⟨R.ρ id, 0, none⟩, R.κ id, vs, hc.1, e1, ?_, by simpa using e3, e4⟩⟩
    intro j v hj
    have := e2 j v hj
    rwa [show R.adr id 0 = ⟨R.ρ id, 0, none⟩ by simp [Ren.adr, hd0]] at this
  · exact ⟨0, [], h, fun x hx => (List.not_mem_nil hx).elim, by simp, .inl ⟨hc, rfl⟩⟩
  · rename_i id off len
    obtain ⟨b, cs, ⟨h1, hk⟩, hid, hb, hB, hbl⟩ := onCells_sound F h
    rcases hc with ⟨ad, cp, hv, had, _⟩ | ⟨h0, hv⟩
    · obtain ⟨vs, e1, _, e2, e3, e4⟩ := run_cells (P := P) hB hb off (len * z) h1
      refine ⟨len, _, hk, ((ABlk.lt_cells hbl hb).drop _).take _, by simp; omega, .inr ⟨ad, cp, vs, hv, e1, ?_, e3, e4⟩⟩
      intro j v hj
      by_cases hl : 0 < len
      · rw [had hl]; exact e2 j v hj
      · have : vs = [] := List.eq_nil_of_length_eq_zero (by rw [e1]; have : len = 0 := by omega
                                                            simp [this])
        subst this; simp at hj
    · subst h0
      exact ⟨0, _, hk, ((ABlk.lt_cells hbl hb).drop _).take _, by simp, .inl ⟨hv, rfl⟩⟩
  · rename_i id off len c0 z'
    split at h <;> try exact h.elim
    rename_i e' z'' cs hlk
    obtain ⟨⟨rfl, h1⟩, hk⟩ := h
    have hB := F.hp.blk _ _ hlk
    have hbl := (F.wf.hp _ _ hlk).2
    have hd0 : R.δ id = 0 := by obtain ⟨_, _, hd0, _⟩ := hB; exact hd0
    obtain ⟨vs, e1, _, e2, e3, e4⟩ := run_cells (P := P) hB (b := .row e' z'' cs) rfl (off * z') (len * z') h1
    refine ⟨len, _, hk, (LL.drop hbl _).take _, by simp; omega, .inr ⟨⟨R.ρ id, off * z', none⟩, c0, vs, hc.1, e1, ?_, e3, e4⟩⟩
    intro j v hj
    have := e2 j v hj
    rwa [show R.adr id (off * z') = ⟨R.ρ id, off * z', none⟩ by simp [Ren.adr, hd0]] at this
  · rename_i t
    obtain ⟨rfl, hk⟩ := h
    have hc : KR R.z t u := hc
    by_cases h0 : 0 < t.len
    · obtain ⟨b, o, cp, hv, _, hB⟩ := KR.blk F.hp.zw hc h0
      have hB := hB ⟨fun _ => b, fun _ => o, fun _ => 0, R.z⟩ 0 rfl rfl rfl
      obtain ⟨vs, e1, _, e2, e3, e4⟩ := run_cells (P := P) hB rfl 0 (t.len * t.z) (by rw [hc.cs_len]; omega)
      refine ⟨_, _, hk, RT.cs_lt, hc.cs_len, .inr ⟨_, cp, vs, hv, e1, fun j v hj => e2 j v hj, ?_, e4⟩⟩
      rw [List.drop_zero, List.take_of_length_le (by rw [hc.cs_len]; omega)] at e3
      exact fun j x hj => by
        obtain ⟨v, hv, hcv⟩ := e3 j x hj
        exact ⟨v, hv, con_cs (R := R) (R1 := ⟨fun _ => b, fun _ => o, fun _ => 0, R.z⟩) rfl (List.mem_of_getElem? hj) hcv⟩
    · have h1 : t.len = 0 := by omega
      have h2 : t.cs = [] := List.eq_nil_of_length_eq_zero (by rw [hc.cs_len, h1, Nat.zero_mul])
      rcases hc.zero h1 with e | ⟨a0, cp, e⟩
      · exact ⟨_, _, hk, RT.cs_lt, hc.cs_len, .inl ⟨e, h1⟩⟩
      · exact ⟨_, _, hk, RT.cs_lt, hc.cs_len, .inr ⟨a0, cp, [], by rw [h1]; exact e, by simp [h1], fun j v hj => by simp at hj, by rw [h2]; exact fun j x hj => by simp at hj, by simp⟩⟩

theorem Fit.newRow {w' : World} {hp0 : List (Nat × ABlk)} {e z n : Nat} {v : Value} {xs : List Value} {cs : List AC} (F : Fit E R { s with hp := hp0 } a w') (hG : s.nx < GB) (hown : w'.ownsRow 0 e z v n xs) (hv : v ≠ .slice none 0 0)
    (hc : conL R cs xs.toArray 0) (hlen : cs.length = n * z) (hl : LL s.nx cs) (hbk : ∀ g, v.ownBlock = some g → (∀ j c, lk hp0 j = some c → g ≠ R.ρ j) ∧ (E.M g ∨ E.W.heap.size ≤ g) ∧ R.z g = none) :
    ∃ R', Fit E R' { s with hp := (s.nx, .row e z cs) :: hp0, nx := s.nx + 1 } a w' ∧ conC R' (.row s.nx n) v := by
  obtain ⟨hx, hcase⟩ := hown
  rcases hcase with ⟨h0, _⟩ | ⟨g, cap, cur, hve, _, hg, hnc, hcm, hcs, htk⟩
  · exact absurd h0 hv
  subst hve
  obtain ⟨hb1, hb2, hb3⟩ := hbk g rfl
  have hag := Ren.set_agree R s.nx g 0 cap hG
  have hf : lk hp0 s.nx = none := by
    cases hq : lk hp0 s.nx with
    | none => rfl
    | some b => have := F.nx _ _ hq; simp only at this; omega
  refine ⟨R.set s.nx g 0 cap, ?_, ?_⟩
  · refine (F.ren (m := s.nx + 1) hag (Ren.set_ok _ _ _ _ hG F.ok) (Nat.le_succ _) hG).add hf ?_ ?_ ?_ (.inl (Nat.lt_succ_self _)) (LL.mono hl (Nat.le_succ _)) (fun _ => by rw [Ren.set_ρ]; exact hb3)
    · refine ⟨cur, by rw [Ren.set_ρ]; exact hg, by simp, by rw [Ren.set_κ]; exact hcm, by rw [Ren.set_κ]; exact hcs, ?_, ?_⟩
      · rw [hlen, hcs]; exact Nat.mul_le_mul_right _ hnc
      · refine (conL.agree hag hl ?_)
        intro j x hj
        obtain ⟨u, hu, hcu⟩ := hc j x hj
        refine ⟨u, ?_, hcu⟩
        rw [Nat.zero_add] at hu ⊢
        rw [← htk] at hu
        simp only [List.getElem?_toArray, List.getElem?_take] at hu
        split at hu
        · simpa using hu
        · cases hu
    · intro _; rw [Ren.set_ρ]; exact hb2
    · intro j c hj _
      rw [Ren.set_ρ, (hag j (F.wf.hp j c hj).1).1]
      exact hb1 j c hj
  · exact ⟨by simp [Ren.set], by simpa [Ren.set] using hnc⟩

theorem conL.append {R : Ren} {cs ds : List AC} {vs us : List Value} (h : conL R cs vs.toArray 0) (k : conL R ds us.toArray 0) (hl : cs.length = vs.length) : conL R (cs ++ ds) (vs ++ us).toArray 0 := by
  intro j x hj
  rw [Nat.zero_add]
  simp only [List.getElem?_toArray, List.getElem?_append] at hj ⊢
  rw [← hl]
  split at hj
  · obtain ⟨v, hv, hc⟩ := h j x hj
    rename_i hlt
    refine ⟨v, ?_, hc⟩
    rw [if_pos hlt]
    rw [Nat.zero_add] at hv; simpa using hv
  · rename_i hlt
    obtain ⟨v, hv, hc⟩ := k _ x hj
    refine ⟨v, ?_, hc⟩
    rw [if_neg hlt]
    rw [Nat.zero_add] at hv; simpa using hv

theorem BRel.spliceX {id e z o : Nat} {cs gs : List AC} {vs : List Value} (hB : BRel R id w (.row e z cs)) (hl : vs.length = gs.length) (hc : conL R gs vs.toArray 0) (ho : o ≤ cs.length) (hn : o + gs.length ≤ R.κ id * z) :
    ∃ c, w.heap[R.ρ id]? = some (.cells c e (0, 0)) ∧ o + vs.length ≤ c.size ∧ R.δ id = 0 ∧ BRel R id (w.setRow (R.ρ id) (c.toList.take o ++ vs ++ c.toList.drop (o + vs.length)).toArray) (.row e z (cs.take o ++ gs ++ cs.drop (o + gs.length))) := by
  obtain ⟨c, h1, h2, h3, h4, h5, h6⟩ := hB
  refine ⟨c, h1, by omega, h2, _, setRow_heap _ _ _ _ _ _ h1, h2, h3, ?_, ?_, ?_⟩
  · simp; omega
  · simp; omega
  · intro j x hj
    simp only [Nat.zero_add, List.getElem?_toArray]
    rw [List.append_assoc, List.getElem?_append] at hj ⊢
    simp only [List.length_take, List.getElem?_append, List.getElem?_drop, hl, Array.length_toList] at hj ⊢
    have e1 : min o cs.length = o := by omega
    have e2 : min o c.size = o := by omega
    rw [e1] at hj; rw [e2]
    by_cases g1 : j < o
    · simp only [g1, if_true, List.getElem?_take] at hj ⊢
      obtain ⟨v, hv, hcv⟩ := h6 j x hj
      exact ⟨v, by rw [Nat.zero_add] at hv; simpa using hv, hcv⟩
    · simp only [g1, if_false] at hj ⊢
      by_cases g2 : j - o < gs.length
      · simp only [g2, if_true] at hj ⊢
        obtain ⟨v, hv, hcv⟩ := hc (j - o) x hj
        exact ⟨v, by simpa using hv, hcv⟩
      · simp only [g2, if_false] at hj ⊢
        obtain ⟨v, hv, hcv⟩ := h6 _ x hj
        exact ⟨v, by rw [Nat.zero_add] at hv; simpa using hv, hcv⟩
theorem zeroCells_con {R : Ren} {z : List AC} {zc : Array Value} (hz : 0 < z.length) (hzs : zc.size = z.length) (hc : ∀ R, conL R z zc 0) (n : Nat) : conL R (rep n z) (Builtin.zeroCells zc n).toList.toArray 0 := by
  intro j x hj
  rw [rep_get z hz] at hj
  split at hj
  · rename_i hlt
    obtain ⟨v, hv, hcv⟩ := hc R _ x hj
    refine ⟨v, ?_, hcv⟩
    have hm : j % z.length < z.length := Nat.mod_lt _ hz
    simp only [Nat.zero_add, Array.toArray_toList, Builtin.zeroCells, Array.getElem?_map] at hv ⊢
    rw [Array.getElem?_range, if_pos (by rw [hzs]; exact hlt)]
    simp only [Option.map_some, hzs]
    rw [getElem!_pos zc (j % z.length) (by omega)]
    rw [Array.getElem?_eq_getElem (by omega)] at hv
    exact hv
  · cases hj
theorem mulcast {n b : Nat} (h : (n : Int) * (b : Int) ≤ 140737488355328) : n * b ≤ 140737488355328 := by
  have : ((n * b : Nat) : Int) ≤ 140737488355328 := by rw [Int.natCast_mul]; exact h
  omega
theorem maxcast {n : Nat} (h : n ≤ 9223372036854775807) : n ≤ maxLen := h

theorem drew_alloc_grown (w : World) (o : Obj) : w.grownBy (w.drew.alloc o) none := ⟨rfl, rfl, rfl, by simp, fun k hk _ => Below.heap_alloc w.drew o k hk⟩

theorem s_append (hT : TOk P T) {x y : Operand} {t t' : TypeId} {c : Call} (hcal : c.callee = .builtin .append) (har : c.args.toList = [x, y]) (hat : c.argTypes.toList = [t, t']) (ho : o.op = .call c) (F : Fit E R s a w)
    (h : stepA T md s (.call c) k) : Out P E a w o k := by
  simp only [stepA, AS.on_eq, hcal, har, hat] at h
  split at h
  · rename_i kt' sz' by' ze' cm' hqt
    obtain ⟨p, hA, hc, hp0⟩ := onC_sound F h
    clear h
    obtain ⟨q, hk, hd, hq0⟩ := onC_sound F hA
    clear hA
    split at hk <;> try exact hk.elim
    rename_i id off len cp z kq n e zz b zzz cc hq
    have hu : P.underlying t = some (.slice e) := (hT _ _ hq).d
    have hu' : P.underlying t' = some (.int kt') := (hT _ _ hqt).d
    split at hk <;> try exact hk.elim
    rename_i i e'' z'' cs hi hlk
    obtain ⟨⟨hG, hsz, rfl, hzl, hn0, hcap, hcl0, h1, h2⟩, hk⟩ := hk
    obtain ⟨inf, z0, hinf, e1, e2, hz0, hzs, hzc, _, _⟩ := (hT _ _ hi).inf
    obtain ⟨hv, hkap, hle⟩ := hc
    simp only [conC, conV] at hd
    obtain ⟨m, rfl⟩ : ∃ m : Nat, n = m := ⟨n.toNat, by omega⟩
    rw [Int.toNat_natCast] at hk hcap h1 h2
    have hm0 : 0 < m := by omega
    have hB := F.hp.blk _ _ hlk
    have hd0 : R.δ id = 0 := by obtain ⟨_, _, hd0, _⟩ := hB; exact hd0
    obtain ⟨vs, f1, _, f2, f3, f4⟩ := run_cells (P := P) hB (b := .row e'' z'' cs) rfl (off * i.size) (len * i.size) hcl0
    have h1' : (len + m) * i.bytes ≤ 140737488355328 := mulcast h1
    have hmb : m * i.bytes ≤ 281474976710656 := by
      have := Nat.mul_le_mul_right i.bytes (show m ≤ len + m by omega)
      omega
    have hold := run_firstCells_some (P := P) w.drew inf.size len ⟨R.ρ id, off * i.size, none⟩ len cp vs (by rw [f1, e1]) (by
      intro j v hj
      have := f2 j v hj
      rw [show R.adr id (off * i.size) = ⟨R.ρ id, off * i.size, none⟩ by simp [Ren.adr, hd0]] at this
      simpa using this)
    have hr := Lib.run_append_grow_zeros (P := P) w t t' o.type e inf z0 kq kt' hu hu' hinf hz0 (some ⟨R.ρ id, off * i.size, none⟩) len cp vs hold m hm0 (by omega) hcap (by omega) (by rw [e2]; exact hmb) (by rw [e2]; exact growslice_fits hcap h1')
    have hzs' : z0.cells.size = i.size := by omega
    have hcon := zeroCells_con (R := R) (by omega) hzs hzc m
    have hgc := grownCap_ge w (len + m) cp e
    have hgm := grownCap_le_maxLen w (len + m) cp e (show len + m ≤ maxLen from h2)
    have hzz : (Builtin.zeroCells z0.cells m).toList.length = m * i.size := by rw [Array.length_toList, size_zeroCells, hzs']
    have har' : c.args = #[x, y] := by rw [← har, Array.toArray_toList]
    have hat' : c.argTypes = #[t, t'] := by rw [← hat, Array.toArray_toList]
    have hclt := (F.wf.hp _ _ hlk).2
    obtain ⟨R', F', hv'⟩ := (F.keep0 (drew_alloc_grown w (.cells (vs.toArray ++ Builtin.zeroCells z0.cells m ++ Builtin.zeroCells z0.cells (grownCap w (len + m) cp e - (len + m))) e))).newRow (hp0 := s.hp) (n := len + m) (e := e) (z := i.size) (xs := vs ++ (Builtin.zeroCells z0.cells m).toList)
      (v := .slice (some ⟨w.heap.size, 0, none⟩) (len + m) (grownCap w (len + m) cp e)) (cs := (cs.drop (off * i.size)).take (len * i.size) ++ rep m i.zero) hG
      ⟨by rw [List.length_append, hzz, f1, Nat.add_mul], .inr ⟨w.heap.size, _, _, rfl, Nat.zero_le _, World.alloc_heap_new w.drew _, hgc, hgm, by
        simp only [Array.size_append, List.size_toArray, f1, size_zeroCells, hzs']
        rw [← Nat.add_mul, ← Nat.add_mul]; congr 1; omega, by
        simp only [Array.toList_append, List.append_assoc]
        rw [← List.append_assoc, List.take_append_of_le_length (by rw [List.length_append, hzz, f1, Nat.add_mul]; exact Nat.le_refl _), List.take_of_length_le (by rw [List.length_append, hzz, f1, Nat.add_mul]; exact Nat.le_refl _)]⟩⟩ (by simp)
      (f3.append (by simpa using hcon) (by simp [f1]; omega)) (by rw [List.length_append, rep_len, hzl, List.length_take, List.length_drop, Nat.add_mul]; congr 1; omega) (((LL.drop hclt _).take _).app (rep_lt ((hT _ _ hi).zlt _) m)) (by
        intro g hg
        simp only [Value.ownBlock, Option.some.injEq] at hg
        subst hg
        exact ⟨fun j c hj e => absurd (F.hp.blk j c hj).lt (by omega), .inr F.fr.size, F.hp.zw.lt (Nat.le_refl _)⟩)
    exact ⟨_, _, _, R', _, _, by simp [execOp, ho, resolve, hcal, har', hat', invoke, builtin, hv, hd, hr], .inl rfl, hk, F', hv', .inl (Nat.lt_succ_self _)⟩
  obtain ⟨rfl, h⟩ := h
  obtain ⟨p, hA, hc, hp0⟩ := onC_sound F h
  clear h
  obtain ⟨q, hk, hd, hq0⟩ := onC_sound F hA
  clear hA
  split at hk <;> try exact hk.elim
  rename_i e sz b z cc hq
  have hu : P.underlying t = some (.slice e) := (hT _ _ hq).d
  split at hk <;> try exact hk.elim
  rename_i i hi
  obtain ⟨⟨hsz, hzl⟩, hk⟩ := hk
  obtain ⟨inf, z0, hinf, e1, e2, hz0, hzs, hzc, _, _⟩ := (hT _ _ hi).inf
  obtain ⟨m, nw, hk2, hnl, hnlen, hcase⟩ := newsOf_sound P F hd hk
  clear hk
  have hk := hk2
  clear hk2
  have har' : c.args = #[x, y] := by rw [← har, Array.toArray_toList]
  have hat' : c.argTypes = #[t, t] := by rw [← hat, Array.toArray_toList]
  have hrun : ∀ (v : Value) (w' : World), (Builtin.append_ #[t, t] o.type #[a.eval x, a.eval y]).run P w = .ok v w' → (execOp a.eval o).run P w = .ok (.value v) w' := by
    intro v w' hr
    simp [execOp, ho, resolve, hcal, har', hat', invoke, builtin, hr]
  have hzs' : z0.cells.size = i.size := by omega
  -- a row that is the activation's own, or none
  have own : ∀ (n : Nat) (v : Value) (xs : List Value) (hp0 : List (Nat × ABlk)) (cs : List AC), a.eval x = v → w.ownsRow 0 e i.size v n xs → s.nx < GB → ((n + m : Nat) : Int) * i.bytes ≤ 140737488355328 → n + m ≤ 9223372036854775807 →
      (v = .slice none 0 0 → 0 < m) → (∀ w', w.grownBy w' v.ownBlock → Fit E R { s with hp := hp0 } a w') → conL R cs xs.toArray 0 → cs.length = n * i.size → LL s.nx cs →
      (∀ g, v.ownBlock = some g → (∀ j c, lk hp0 j = some c → g ≠ R.ρ j) ∧ (E.M g ∨ E.W.heap.size ≤ g) ∧ R.z g = none) → (∀ j c, lk hp0 j = some c → R.ρ j < w.heap.size) →
      k (.c (.row s.nx (n + m))) { s with hp := (s.nx, .row e i.size (cs ++ nw)) :: hp0, nx := s.nx + 1 } → Out P E a w o k := by
    intro n v xs hp0 cs hv hown hG hby hmx hnn hF hcx hcl hll hbk hlt hkk
    have hmx' : n + m ≤ maxLen := hmx
    have hby' : (n + m) * i.bytes ≤ 140737488355328 := mulcast hby
    have fin : ∀ (v' : Value) (w' : World) (news : List Value), (Builtin.append_ #[t, t] o.type #[v, a.eval y]).run P w = .ok v' w' → w'.ownsRow 0 e i.size v' (n + m) (xs ++ news) → w.grownBy w' v.ownBlock →
        v' ≠ .slice none 0 0 → (v'.ownBlock = v.ownBlock ∨ v'.ownBlock = some w.heap.size) → conL R nw news.toArray 0 → Out P E a w o k := by
      intro v' w' news hr ho' hg' hne hob hcn
      have hxl : xs.length = n * i.size := hown.1
      obtain ⟨R', F', hv'⟩ := (hF w' hg').newRow hG ho' hne (hcx.append hcn (by omega)) (by simp [hcl, hnlen, Nat.add_mul]) (hll.app hnl) (by
        intro g hgg
        rcases hob with h1 | h1
        · exact hbk g (by rw [← h1]; exact hgg)
        · rw [h1] at hgg; injection hgg with hgg; subst hgg
          exact ⟨fun j c hj e => absurd (hlt j c hj) (by omega), .inr F.fr.size, F.hp.zw.lt (Nat.le_refl _)⟩)
      exact ⟨_, w', v', R', _, _, hrun v' w' (by rw [hv]; exact hr), .inl rfl, hkk, F', hv', .inl (Nat.lt_succ_self _)⟩
    rcases hcase with ⟨hn, hm0⟩ | ⟨ad, cp, news, hy, hnl1, hnl2, hnl3, hnl4⟩
    · subst hm0
      have hr := run_append_owned_none (P := P) (w := w) 0 t o.type e inf i.size hu hinf v n xs hown
      refine fin v w [] (by rw [hn]; exact hr) (by simpa using hown) (World.grownBy.refl w _) (fun e => absurd (hnn e) (by omega)) (.inl rfl) ?_
      rw [show nw = [] from List.eq_nil_of_length_eq_zero (by simpa using hnlen)]
      intro j x hj; simp at hj
    · obtain ⟨v', w', hr, h2, h3, h4, h5⟩ := run_append_own_at (P := P) w 0 t o.type e inf z0 i.size i.bytes hu hinf hz0 e1 e2 hzs' hsz v n xs hown ad m cp news hnl1 hnl2 hnl4 hmx' hby' (Nat.zero_le _)
      refine fin v' w' news (by rw [hy]; exact hr) h2 h3 ?_ h5 hnl3
      intro e
      obtain ⟨e1, e2⟩ := h4.1 e
      exact absurd (hnn e1) (by omega)
  split at hk <;> try exact hk.elim
  · -- nil
    obtain ⟨⟨hG, h1, h2⟩, hk0, hk1⟩ := hk
    simp only [conC] at hc
    by_cases hm : m = 0
    · rcases hcase with ⟨hn, _⟩ | ⟨ad, cp, news, hy, hnl1, hnl2, hnl3, hnl4⟩
      · have hr := run_append_owned_none (P := P) (w := w) 0 t o.type e inf i.size hu hinf (.slice none 0 0) 0 [] (w.ownsRow_nil 0 e i.size)
        exact Out.mk (hrun _ _ (by rw [hc, hn]; exact hr)) (hk0 hm) F rfl trivial
      · obtain ⟨v', w', hr, _, h3, h4, _⟩ := run_append_own_at (P := P) w 0 t o.type e inf z0 i.size i.bytes hu hinf hz0 e1 e2 hzs' hsz (.slice none 0 0) 0 [] (w.ownsRow_nil 0 e i.size) ad m cp news hnl1 hnl2 hnl4
          (by rw [Nat.zero_add]; exact maxcast h2) (by rw [Nat.zero_add]; exact mulcast h1) (Nat.zero_le _)
        obtain rfl := h4.2 ⟨rfl, hm⟩
        exact ⟨_, w', _, R, s, _, hrun _ _ (by rw [hc, hy]; exact hr), .inl rfl, hk0 hm, F.keep0 h3, rfl, trivial⟩
    · refine own 0 (.slice none 0 0) [] s.hp [] hc (w.ownsRow_nil 0 e i.size) hG (by rw [Nat.zero_add]; exact h1) (by omega) (fun _ => by omega) (fun w' hg => F.keep0 hg) (by intro j x hj; simp at hj) (by simp) (fun x hx => (List.not_mem_nil hx).elim)
        (by intro g hg; simp [Value.ownBlock] at hg) (fun j c hj => (F.hp.blk j c hj).lt) ?_
      rw [Nat.zero_add]
      simpa using hk1 (by omega)
  · -- a row
    rename_i id len
    split at hk <;> try exact hk.elim
    rename_i e' z' cs hlk
    obtain ⟨⟨hG, rfl, rfl, hlen, h1, h2⟩, hk⟩ := hk
    obtain ⟨hv, hle⟩ := hc
    have hB := F.hp.blk _ _ hlk
    obtain ⟨cc, hh, hd0, hcm, hcs, hcl, hcc⟩ := (show BRel R id w (.row e' i.size cs) from hB)
    refine own len _ (cc.toList.take (len * i.size)) (del s.hp id) cs hv ⟨by simp; omega, .inr ⟨R.ρ id, R.κ id, cc, rfl, Nat.zero_le _, hh, hle, hcm, hcs, rfl⟩⟩ hG h1 h2 (by simp) ?_ ?_ hlen (F.wf.hp _ _ hlk).2 ?_ ?_ hk
    · intro w' hg
      exact F.keep hlk rfl (by simpa [Value.ownBlock] using hg) (cells_notdf hB (b := .row e' i.size cs) rfl)
    · intro j y hj
      obtain ⟨u, hu', hcu⟩ := hcc j y hj
      refine ⟨u, ?_, hcu⟩
      have := (List.getElem?_eq_some_iff.1 hj).1
      rw [Nat.zero_add] at hu' ⊢
      simp only [List.getElem?_toArray, List.getElem?_take]
      rw [if_pos (by omega)]; simpa using hu'
    · intro g hg
      simp only [Value.ownBlock, Option.some.injEq] at hg
      subst hg
      refine ⟨?_, F.wr id _ hlk rfl, F.hp.zn id _ hlk rfl⟩
      intro j c hj
      simp only [lk_del] at hj
      split at hj
      · cases hj
      · rename_i hne; exact F.hp.inj id j _ c hlk hj hne rfl
    · intro j c hj
      simp only [lk_del] at hj
      split at hj
      · cases hj
      · exact (F.hp.blk j c hj).lt
  · -- a slice that is full
    rename_i id off len c0
    obtain ⟨b', cs, ⟨⟨hG, h0, h1, h2, h3⟩, hk3⟩, hid, hb, hB, hbl⟩ := onCells_sound F hk
    obtain ⟨ad0, cp0, hv, hcap, had0, hle⟩ := hc
    obtain rfl := hcap c0 rfl
    obtain ⟨vs, f1, _, f2, f3, f4⟩ := run_cells (P := P) hB hb off (len * i.size) h1
    rcases hcase with ⟨_, hm0⟩ | ⟨ad, cp, news, hy, hnl1, hnl2, hnl3, hnl4⟩
    · omega
    have h2' : (len + m) * i.bytes ≤ 140737488355328 := mulcast h2
    have hr := run_append_grow (P := P) w t o.type e inf z0 hu hinf hz0 ad0 len cp0 vs (by rw [f1, e1]) (by
      intro j v hj
      by_cases hl : 0 < len
      · rw [had0 hl]; exact f2 j v hj
      · have : vs = [] := List.eq_nil_of_length_eq_zero (by rw [f1]; have : len = 0 := by omega
                                                            simp [this])
        subst this; simp at hj) ad m cp news (by rw [hnl1, e1]) hnl2 h0 (by omega) (by rw [e2]; exact growslice_fits h0 h2')
    have hgc := grownCap_ge w (len + m) cp0 e
    have hgm := grownCap_le_maxLen w (len + m) cp0 e (show len + m ≤ maxLen from h3)
    have hcl := (ABlk.lt_cells hbl hb)
    obtain ⟨R', F', hv'⟩ := (F.keep0 (drew_alloc_grown w (.cells (vs.toArray ++ news.toArray ++ Builtin.zeroCells z0.cells (grownCap w (len + m) cp0 e - (len + m))) e))).newRow (hp0 := s.hp) (n := len + m) (e := e) (z := i.size) (xs := vs ++ news)
      (v := .slice (some ⟨w.heap.size, 0, none⟩) (len + m) (grownCap w (len + m) cp0 e)) (cs := (cs.drop off).take (len * i.size) ++ nw) hG
      ⟨by simp [f1, hnl1, Nat.add_mul], .inr ⟨w.heap.size, _, _, rfl, Nat.zero_le _, World.alloc_heap_new w.drew _, hgc, hgm, by
        simp only [Array.size_append, List.size_toArray, f1, hnl1, size_zeroCells, hzs']
        rw [← Nat.add_mul, ← Nat.add_mul]; congr 1; omega, by
        simp only [Array.toList_append, List.append_assoc]
        rw [← List.append_assoc, List.take_append_of_le_length (by simp [f1, hnl1, Nat.add_mul]), List.take_of_length_le (by simp [f1, hnl1, Nat.add_mul])]⟩⟩ (by simp)
      (f3.append hnl3 (by simp [f1]; omega)) (by simp [hnlen, Nat.add_mul]; omega) (((hcl.drop _).take _).app hnl) (by
        intro g hg
        simp only [Value.ownBlock, Option.some.injEq] at hg
        subst hg
        exact ⟨fun j c hj e => absurd (F.hp.blk j c hj).lt (by omega), .inr F.fr.size, F.hp.zw.lt (Nat.le_refl _)⟩)
    exact ⟨_, _, _, R', _, _, hrun _ _ (by rw [hv, hy]; exact hr), .inl rfl, hk3, F', hv', .inl (Nat.lt_succ_self _)⟩
  · -- a part of a row whose capacity is known
    rename_i id off len cp zr
    split at hk <;> try exact hk.elim
    rename_i e' z' cs hlk
    obtain ⟨⟨rfl, rfl, rfl, hkn⟩, hk1, hk2⟩ := hk
    obtain ⟨hv, hkap, hle⟩ := hc
    have hB := F.hp.blk _ _ hlk
    have hclt := (F.wf.hp _ _ hlk).2
    have hd0 : R.δ id = 0 := by obtain ⟨_, _, hd0, _⟩ := hB; exact hd0
    by_cases hroom : len + m ≤ cp
    · have hfit : off * i.size + len * i.size + nw.length ≤ R.κ id * i.size := by
        rw [hnlen, ← hkap, ← Nat.add_mul, ← Nat.add_mul]
        exact Nat.mul_le_mul_right _ (by omega)
      rcases hcase with ⟨hn, hm0⟩ | ⟨ad, c1, news, hy, hnl1, hnl2, hnl3, hnl4⟩
      · subst hm0
        have hnw : nw = [] := List.eq_nil_of_length_eq_zero (by simpa using hnlen)
        subst hnw
        have hr : (Builtin.append_ #[t, t] o.type #[.slice (some ⟨R.ρ id, off * i.size, none⟩) len cp, .slice none 0 0]).run P w = .ok (.slice (some ⟨R.ρ id, off * i.size, none⟩) len cp) w := by
          simp [Builtin.append_, run_underlying hu, sizeOf, typeInfo, hinf, Builtin.lenOf, hle, Builtin.firstCells, storeCells]
        refine ⟨_, w, _, R, _, _, hrun _ _ (by rw [hv, hn]; exact hr), .inl rfl, hk1 hroom, F.hp_congr fun j => ?_, ⟨rfl, hkap, by omega⟩, hp0⟩
        rw [lk_up]
        split
        · rename_i e; subst e
          simp [hlk]
        · rfl
      · obtain ⟨cc, hh, hsz2, hd, hB'⟩ := BRel.spliceX hB (by omega) hnl3 hkn hfit
        have hst := run_storeCells_at P (R.ρ id) (off * i.size + len * i.size) e' news 0 cc w hh (by simpa using hsz2) hnl4
        have hf := run_firstCells_some (P := P) w inf.size m ad m c1 news (by rw [hnl1, e1]) hnl2
        rw [e1] at hf
        simp only [Nat.add_zero] at hst
        have hr : (Builtin.append_ #[t, t] o.type #[.slice (some ⟨R.ρ id, off * i.size, none⟩) len cp, .slice (some ad) m c1]).run P w = .ok (.slice (some ⟨R.ρ id, off * i.size, none⟩) (len + m) cp) (w.setRow (R.ρ id) (cc.toList.take (off * i.size + len * i.size) ++ news ++ cc.toList.drop (off * i.size + len * i.size + news.length)).toArray) := by
          simp [Builtin.append_, run_underlying hu, sizeOf, typeInfo, hinf, Builtin.lenOf, hroom, hf, e1, Addr.add_lit, hst]
        rw [hnlen] at hB'
        refine ⟨_, _, _, R, _, _, hrun _ _ (by rw [hv, hy]; exact hr), .inl rfl, hk1 hroom, F.wrote hlk rfl (grownBy_setRow w (R.ρ id) _) (cells_notdf hB (b := .row e' i.size cs) rfl) hB' rfl ?_, ⟨rfl, hkap, hroom⟩, hp0⟩
        exact ((LL.take hclt _).app hnl).app (LL.drop hclt _)
    · have h0 : cp < len + m := by omega
      obtain ⟨⟨hG, h2, h3⟩, hk3⟩ := hk2 h0
      obtain ⟨vs, f1, _, f2, f3, f4⟩ := run_cells (P := P) hB (b := .row e' i.size cs) rfl (off * i.size) (len * i.size) hkn
      rcases hcase with ⟨_, hm0⟩ | ⟨ad, c1, news, hy, hnl1, hnl2, hnl3, hnl4⟩
      · omega
      have h2' : (len + m) * i.bytes ≤ 140737488355328 := mulcast h2
      have hr := run_append_grow (P := P) w t o.type e' inf z0 hu hinf hz0 ⟨R.ρ id, off * i.size, none⟩ len cp vs (by rw [f1, e1]) (by
        intro j v hj
        have := f2 j v hj
        rwa [show R.adr id (off * i.size) = ⟨R.ρ id, off * i.size, none⟩ by simp [Ren.adr, hd0]] at this) ad m c1 news (by rw [hnl1, e1]) hnl2 h0 (by omega) (by rw [e2]; exact growslice_fits h0 h2')
      have hgc := grownCap_ge w (len + m) cp e'
      have hgm := grownCap_le_maxLen w (len + m) cp e' (show len + m ≤ maxLen from h3)
      obtain ⟨R', F', hv'⟩ := (F.keep0 (drew_alloc_grown w (.cells (vs.toArray ++ news.toArray ++ Builtin.zeroCells z0.cells (grownCap w (len + m) cp e' - (len + m))) e'))).newRow (hp0 := s.hp) (n := len + m) (e := e') (z := i.size) (xs := vs ++ news)
        (v := .slice (some ⟨w.heap.size, 0, none⟩) (len + m) (grownCap w (len + m) cp e')) (cs := (cs.drop (off * i.size)).take (len * i.size) ++ nw) hG
        ⟨by simp [f1, hnl1, Nat.add_mul], .inr ⟨w.heap.size, _, _, rfl, Nat.zero_le _, World.alloc_heap_new w.drew _, hgc, hgm, by
          simp only [Array.size_append, List.size_toArray, f1, hnl1, size_zeroCells, hzs']
          rw [← Nat.add_mul, ← Nat.add_mul]; congr 1; omega, by
          simp only [Array.toList_append, List.append_assoc]
          rw [← List.append_assoc, List.take_append_of_le_length (by simp [f1, hnl1, Nat.add_mul]), List.take_of_length_le (by simp [f1, hnl1, Nat.add_mul])]⟩⟩ (by simp)
        (f3.append hnl3 (by simp [f1]; omega)) (by simp [hnlen, Nat.add_mul]; omega) (((LL.drop hclt _).take _).app hnl) (by
          intro g hg
          simp only [Value.ownBlock, Option.some.injEq] at hg
          subst hg
          exact ⟨fun j c hj e => absurd (F.hp.blk j c hj).lt (by omega), .inr F.fr.size, F.hp.zw.lt (Nat.le_refl _)⟩)
      exact ⟨_, _, _, R', _, _, hrun _ _ (by rw [hv, hy]; exact hr), .inl rfl, hk3, F', hv', .inl (Nat.lt_succ_self _)⟩

theorem prim_lt {x : AC} {n : Nat} (h : x.prim = true) : x.lt n := by cases x <;> first | trivial | cases h

theorem lookup_out (hT : TOk P T) {t id ke el : Nat} {x y : Operand} {ok : Bool} {m : List (List AC × AC)} {ks zs : List AC} {dk ed : TD} {zk zb es eb : Nat} {z0 : AC} {ec : Bool} (ho : o.op = .lookup t x y ok) (F : Fit E R s a w) (hu : P.underlying t = some (.map ke el))
    (hc : conC R (.map id) (a.eval x)) (hd : conV R (.g ks) (a.eval y)) (hm : BRel R id w (.mp m)) (hml : ABlk.lt s.nx (.mp m)) (hke : T ke = some ⟨dk, zk, zb, zs, true⟩) (hel : T el = some ⟨ed, es, eb, [z0], ec⟩) (hag : TI.agg ⟨ed, 1, 0, [], false⟩ = false) (hmk : mOk m ks zs)
    (hk : match (generalizing := false) ok with
      | true => k (.t [.c ((mget m ks).getD z0), .c (.bool (mget m ks).isSome)]) s
      | false => k (.c ((mget m ks).getD z0)) s) : Out P E a w o k := by
  obtain ⟨hko, hmo⟩ := hmk
  have hE := hT _ _ hel
  have eL := (hT _ _ hke).eq rfl
  obtain ⟨ents, clock, hh, hsz, hent⟩ := hm
  simp only [conC] at hc
  have hgo := MapKept.run_getObj_map (P := P) hh
  obtain ⟨vs, hv, hvs, hvc⟩ := hd
  have hag' : TI.agg ⟨ed, es, eb, [z0], ec⟩ = false := hag
  obtain ⟨zv, hz, hzs, hzc, _⟩ := hE.zeroR w
  have hz0 : conC R z0 zv := by
    have hzz : zv.cells = #[zv] := by
      have har := hE.inf
      obtain ⟨ix, z', i1, i2, i3, i4, i5, i6, i7, i8⟩ := har
      have : zv = z' := by
        have hz' : (zeroValue el).run P w = .ok z' w := by simp [zeroValue, typeInfo, i1, i4]
        rw [hz] at hz'; injection hz'
      subst this
      obtain ⟨u, hu1, hu2⟩ := i6 R 0 z0 rfl
      exact hE.one hag' _ _ i1 i4
    obtain ⟨u, hu1, hu2⟩ := hzc R 0 z0 rfl
    rw [hzz] at hu1
    simp at hu1; subst hu1; exact hu2
  obtain ⟨lx, hlx⟩ := eL.lits ks vs R hko hvs hvc
  have hck := fun em => eL.key.check w em hlx
  rcases findAsking_sound (P := P) (w := w) eL (R := R) hko hvs hvc m ents.toList 0 (by simpa using hsz) (fun i p e hi he => by
      obtain ⟨k', v'⟩ := p
      obtain ⟨e', g1, g2⟩ := hent i k' v' hi
      have : e' = e := by have he' : ents[i]? = some e := by simpa using he
                          rw [g1] at he'; injection he'
      exact this ▸ g2) hmo with ⟨a1, a2, a3⟩ | ⟨j, e, v, a1, a2, a3, a4, a5, a6⟩
  · have hr : (Instr.findKey ke (.agg vs) ents.toList).run P w = .ok none w := by rw [run_findKey_eq w eL.wide, a2]
    rw [a1] at hk
    cases ok with
    | true =>
      refine Out.mk (u := .tuple #[zv, .bool false]) ?_ hk F ⟨_, rfl, rfl, ?_⟩ ?_
      · simp [execOp, ho, hc, hv, Instr.lookup, run_underlying hu, hgo, hck, hr, hz]
      · intro i e hi
        match i, hi with
        | 0, hi => simp at hi; subst hi; exact ⟨zv, rfl, hz0⟩
        | 1, hi => simp at hi; subst hi; exact ⟨_, rfl, rfl⟩
        | (i + 2), hi => simp at hi
      · intro e he
        simp at he
        rcases he with rfl | rfl
        · exact (hE.zlt s.nx) z0 (by simp)
        · trivial
    | false =>
      refine Out.mk (u := zv) ?_ hk F hz0 ((hE.zlt s.nx) z0 (by simp))
      simp [execOp, ho, hc, hv, Instr.lookup, run_underlying hu, hgo, hck, hr, hz]
  · have hr : (Instr.findKey ke (.agg vs) ents.toList).run P w = .ok (some (j, e.val)) w := by rw [run_findKey_eq w eL.wide, a1, Nat.zero_add]
    rw [a4] at hk
    have hlv : v.lt s.nx := by
      have := hml
      have hm' : ∀ (m : List (List AC × AC)), mget m ks = some v → ∃ p ∈ m, p.2 = v := by
        intro m
        induction m with
        | nil => intro h; cases h
        | cons p m ih =>
          obtain ⟨k1, v1⟩ := p
          intro h
          simp only [mget] at h
          split at h
          · injection h with h; exact ⟨(k1, v1), by simp, h⟩
          · obtain ⟨p, hp, e⟩ := ih h; exact ⟨p, by simp [hp], e⟩
      obtain ⟨p, hp, e⟩ := hm' m a4
      exact e ▸ (this p hp).2
    cases ok with
    | true =>
      refine Out.mk (u := .tuple #[e.val, .bool true]) ?_ hk F ⟨_, rfl, rfl, ?_⟩ ?_
      · simp [execOp, ho, hc, hv, Instr.lookup, run_underlying hu, hgo, hck, hr]
      · intro i e' hi
        match i, hi with
        | 0, hi => simp at hi; subst hi; exact ⟨e.val, rfl, a5⟩
        | 1, hi => simp at hi; subst hi; exact ⟨_, rfl, rfl⟩
        | (i + 2), hi => simp at hi
      · intro e' he
        simp at he
        rcases he with rfl | rfl
        · exact hlv
        · trivial
    | false =>
      refine Out.mk (u := e.val) ?_ hk F a5 hlv
      simp [execOp, ho, hc, hv, Instr.lookup, run_underlying hu, hgo, hck, hr]
theorem s_lookup (hT : TOk P T) {t : Nat} {x y : Operand} {ok : Bool} (ho : o.op = .lookup t x y ok) (F : Fit E R s a w) (h : stepA T md s (.lookup t x y ok) k) : Out P E a w o k := by
  simp only [stepA, AS.on_eq] at h
  obtain ⟨p, hA, hc, hp0⟩ := onC_sound F h
  clear h
  obtain ⟨q, hk, hd, hq0⟩ := onV_sound F hA
  clear hA
  split at hk <;> try exact hk.elim
  rename_i id ks ke el z1 b1 z2 c1 hq
  have hu : P.underlying t = some (.map ke el) := (hT _ _ hq).d
  split at hk <;> try exact hk.elim
  rename_i m dk zk zb zs ed es eb z0 ec hm hke hel
  obtain ⟨⟨hag, hmk⟩, hk⟩ := hk
  exact lookup_out hT ho F hu hc hd (F.hp.blk _ _ hm) (F.wf.hp _ _ hm).2 hke hel hag hmk hk

theorem grownBy_setObj (w : World) (g : Nat) (o : Obj) : w.grownBy { w with heap := w.heap.setIfInBounds g o } (some g) :=
  ⟨rfl, rfl, rfl, by simp, fun k _ hk => by
    have : g ≠ k := fun e => hk (by rw [e])
    simp [Array.getElem?_setIfInBounds, this]⟩

theorem mset_lt {n : Nat} {ks : List AC} {u : AC} (hq0 : LL n ks) (hu0 : u.lt n) : ∀ (m : List (List AC × AC)), (∀ p ∈ m, LL n p.1 ∧ p.2.lt n) → ∀ p ∈ mset m ks u, LL n p.1 ∧ p.2.lt n := by
  intro m
  induction m with
  | nil => intro _ p hp; simp [mset] at hp; subst hp; exact ⟨hq0, hu0⟩
  | cons q m ih =>
    obtain ⟨k1, v1⟩ := q
    intro hm p hp
    simp only [mset] at hp
    split at hp
    · rcases List.mem_cons.1 hp with e | e
      · subst e; exact ⟨(hm (k1, v1) (by simp)).1, hu0⟩
      · exact hm p (by simp [e])
    · rcases List.mem_cons.1 hp with e | e
      · subst e; exact hm (k1, v1) (by simp)
      · exact ih (fun p hp => hm p (by simp [hp])) p e
theorem mset_prim {m : List (List AC × AC)} {ks z : List AC} {u : AC} (hk : okL ks z) (hu : u.prim = true) (hm : primM m) : primM (mset m ks u) := by
  have hkp : ∀ x ∈ ks, x.prim = true := by
    obtain ⟨_, hg⟩ := okL_get hk
    intro x hx
    obtain ⟨i, hi⟩ := List.mem_iff_getElem?.1 hx
    obtain ⟨z', _, ok⟩ := hg i x hi
    cases x <;> cases z' <;> first | rfl | exact ok.elim
  induction m with
  | nil => intro p hp; simp [mset] at hp; subst hp; exact ⟨hkp, hu⟩
  | cons q m ih =>
    obtain ⟨k1, v1⟩ := q
    intro p hp
    simp only [mset] at hp
    split at hp
    · rcases List.mem_cons.1 hp with e | e
      · subst e; exact ⟨(hm (k1, v1) (by simp)).1, hu⟩
      · exact hm p (by simp [e])
    · rcases List.mem_cons.1 hp with e | e
      · subst e; exact hm (k1, v1) (by simp)
      · exact ih (fun p hp => hm p (by simp [hp])) p e

theorem update_run (hT : TOk P T) {t id ke el : Nat} {x y v : Operand} {m : List (List AC × AC)} {ks zs : List AC} {dk : TD} {zk zb : Nat} {u : AC} (ho : o.op = .mapUpdate t x y v) (hu : P.underlying t = some (.map ke el))
    (hc : conC R (.map id) (a.eval x)) (hd : conV R (.g ks) (a.eval y)) (he : conC R u (a.eval v)) (hB : BRel R id w (.mp m)) (hke : T ke = some ⟨dk, zk, zb, zs, true⟩) (hmk : mOk m ks zs) :
    ∃ w', (execOp a.eval o).run P w = .ok .skip w' ∧ w.grownBy w' (some (R.ρ id)) ∧ BRel R id w' (.mp (mset m ks u)) := by
  obtain ⟨hko, hmo⟩ := hmk
  have eL := (hT _ _ hke).eq rfl
  obtain ⟨ents, clock, hh, hsz, hent⟩ := hB
  simp only [conC] at hc
  have hgo := MapKept.run_getObj_map (P := P) hh
  obtain ⟨vs, hv, hvs, hvc⟩ := hd
  obtain ⟨lx, hlx⟩ := eL.lits ks vs R hko hvs hvc
  have hck := fun em => eL.key.check w em hlx
  have hst := eL.key.stays w hlx
  have hlt : R.ρ id < w.heap.size := (Array.getElem?_eq_some_iff.1 hh).1
  have hself : conL R ks vs 0 := hvc
  rcases findAsking_sound (P := P) (w := w) eL (R := R) hko hvs hvc m ents.toList 0 (by simpa using hsz) (fun i p e hi he => by
      obtain ⟨k', v'⟩ := p
      obtain ⟨e', g1, g2⟩ := hent i k' v' hi
      have : e' = e := by have he' : ents[i]? = some e := by simpa using he
                          rw [g1] at he'; injection he'
      exact this ▸ g2) hmo with ⟨a1, a2, a3⟩ | ⟨j, e, v0, a1, a2, a3, a4, a5, a6⟩
  · have hr : (Instr.findKey ke (.agg vs) ents.toList).run P w = .ok none w := by rw [run_findKey_eq w eL.wide, a2]
    refine ⟨_, ?_, grownBy_setObj w (R.ρ id) (.map (ents.push { key := .agg vs, val := a.eval v, born := clock }) (clock + 1)), ?_⟩
    · simp [execOp, ho, hc, hv, Instr.mapUpdate, run_underlying hu, hgo, hck, hr, MapKept.run_setObj_map _ hh]
    · refine ⟨_, _, by simp [hlt]; exact ⟨rfl, rfl⟩, by rw [a3]; simp [hsz], ?_⟩
      intro i k' v' hi
      rw [a3] at hi
      rw [List.getElem?_append] at hi
      split at hi
      · rename_i hlt2
        obtain ⟨e', g1, g2⟩ := hent i k' v' hi
        refine ⟨e', ?_, g2⟩
        rw [Array.getElem?_push]
        rw [if_neg (by omega)]; exact g1
      · rename_i hge
        have hi0 : i - m.length = 0 := by
          by_cases h0 : i - m.length = 0
          · exact h0
          · rw [List.getElem?_eq_none (by simp; omega)] at hi; cases hi
        rw [hi0] at hi; simp at hi
        obtain ⟨rfl, rfl⟩ := hi
        refine ⟨{ key := .agg vs, val := a.eval v, born := clock }, ?_, ⟨vs, rfl, hvs, hvc⟩, he⟩
        rw [Array.getElem?_push, if_pos (by omega)]
  · have hr : (Instr.findKey ke (.agg vs) ents.toList).run P w = .ok (some (j, e.val)) w := by rw [run_findKey_eq w eL.wide, a1, Nat.zero_add]
    have hej : ents[j]? = some e := by simpa using a2
    refine ⟨_, ?_, grownBy_setObj w (R.ρ id) (.map (ents.modify j fun e => { e with key := .agg vs, val := a.eval v }) clock), ?_⟩
    · simp [execOp, ho, hc, hv, Instr.mapUpdate, run_underlying hu, hgo, hck, hr, hej, a3, hst, MapKept.run_setObj_map _ hh]
    · refine ⟨_, _, by simp [hlt]; exact ⟨rfl, rfl⟩, by rw [a6]; simp [hsz], ?_⟩
      intro i k' v' hi
      rw [a6, List.getElem?_set] at hi
      have hjl : j < m.length := by have := (Array.getElem?_eq_some_iff.1 hej).1; omega
      rw [Array.getElem?_modify]
      split at hi
      · rename_i e1; subst e1
        (try rw [if_pos hjl] at hi)
        injection hi with hi; injection hi with h1 h2; subst h1; subst h2
        refine ⟨{ e with key := .agg vs, val := a.eval v }, by simp [hej], ⟨vs, rfl, hvs, hvc⟩, he⟩
      · rename_i hne
        obtain ⟨e', g1, g2⟩ := hent i k' v' hi
        exact ⟨e', by simp [hne, g1], g2⟩

theorem s_mapUpdate (hT : TOk P T) {t : Nat} {x y v : Operand} (ho : o.op = .mapUpdate t x y v) (F : Fit E R s a w) (h : stepA T md s (.mapUpdate t x y v) k) : Out P E a w o k := by
  simp only [stepA, AS.on_eq] at h
  obtain ⟨p, hA, hc, hp0⟩ := onC_sound F h
  clear h
  obtain ⟨q, hB, hd, hq0⟩ := onV_sound F hA
  clear hA
  obtain ⟨u, hk, he, hu0⟩ := onC_sound F hB
  clear hB
  split at hk <;> try exact hk.elim
  rename_i id ks ke el z1 b1 z2 c1 hq
  have hu : P.underlying t = some (.map ke el) := (hT _ _ hq).d
  split at hk <;> try exact hk.elim
  · rename_i m dk zk zb zs hm hke
    obtain ⟨hmk, hk⟩ := hk
    have hB := F.hp.blk _ _ hm
    obtain ⟨w', h1, h2, h3⟩ := update_run (P := P) hT ho hu hc hd he hB hke hmk
    have hndf : ∀ ds, w.heap[R.ρ id]? ≠ some (.deferred ds) := by
      obtain ⟨ents, clock, hh, _⟩ := hB
      intro ds e; rw [hh] at e; cases e
    exact ⟨.skip, w', undef, R, _, _, h1, .inr ⟨rfl, rfl⟩, hk, F.wrote hm rfl h2 hndf h3 rfl (mset_lt hq0 hu0 m (F.wf.hp _ _ hm).2), ⟨#[], rfl, rfl, by simp⟩, by intro e he; cases he⟩
  · rename_i I dk zk zb zs hm hke
    obtain ⟨⟨hup, hmk⟩, hk⟩ := hk
    obtain ⟨m, ⟨hI, hp⟩, hB⟩ := BRel.mi_iff.1 (F.hp.blk _ _ hm)
    obtain ⟨hmk, hI2⟩ := hmk m hI
    obtain ⟨w', h1, h2, h3⟩ := update_run (P := P) hT ho hu hc hd he hB hke hmk
    have hndf : ∀ ds, w.heap[R.ρ id]? ≠ some (.deferred ds) := by
      obtain ⟨ents, clock, hh, _⟩ := hB
      intro ds e; rw [hh] at e; cases e
    have F2 : Fit E R { s with hp := up s.hp id (.mi I) } a w' := F.wrote hm rfl h2 hndf (BRel.mi_iff.2 ⟨_, ⟨hI2, mset_prim hmk.1 hup hp⟩, h3⟩) rfl trivial
    have F3 : Fit E R s a w' := by
      have := F2.hp_congr (hp' := s.hp) (fun i => by
        rw [lk_up]
        split
        · rename_i e; exact e ▸ hm
        · rfl)
      exact this
    exact ⟨.skip, w', undef, R, _, _, h1, .inr ⟨rfl, rfl⟩, hk, F3, ⟨#[], rfl, rfl, by simp⟩, by intro e he; cases he⟩

theorem s_range (hT : TOk P T) {t : Nat} {x : Operand} (ho : o.op = .range t x) (F : Fit E R s a w) (h : stepA T md s (.range t x) k) : Out P E a w o k := by
  simp only [stepA, AS.on_eq] at h
  obtain ⟨p, hk, hc, hp0⟩ := onC_sound F h
  clear h
  split at hk <;> try exact hk.elim
  rename_i b z bb zz cc hq
  have hu : P.underlying t = some .string := (hT _ _ hq).d
  obtain ⟨hG, hk⟩ := lit_iff.1 hk
  rw [decide_eq_true_eq] at hG
  simp only [conC] at hc
  have hag := Ren.set_agree R s.nx w.heap.size 0 0 hG
  have hf : lk s.hp s.nx = none := by
    cases hq : lk s.hp s.nx with
    | none => rfl
    | some b => have := F.nx _ _ hq; omega
  have F1 := (F.keep0 (w.grownBy_alloc (.stringIter b 0) none)).ren hag (Ren.set_ok _ _ _ _ hG F.ok) (Nat.le_succ s.nx) (show s.nx + 1 ≤ GB by omega)
  have F2 : Fit E (R.set s.nx w.heap.size 0 0) { s with hp := (s.nx, .si b 0) :: s.hp, nx := s.nx + 1 } a (w.alloc (.stringIter b 0)) := by
    refine F1.add hf ?_ (fun _ => .inr ?_) ?_ (.inl (Nat.lt_succ_self _)) trivial (fun _ => by rw [Ren.set_ρ]; exact F.hp.zw.lt (Nat.le_refl _))
    · refine ⟨?_, by simp [Ren.set]⟩
      rw [Ren.set_ρ]; exact World.alloc_heap_new w _
    · rw [Ren.set_ρ]; exact F.fr.size
    · intro j c hj _
      rw [Ren.set_ρ, (hag j (F.wf.hp j c hj).1).1]
      exact fun e => absurd (F.hp.blk j c hj).lt (by omega)
  refine ⟨.value (.pointer (some ⟨w.heap.size, 0, none⟩)), w.alloc (.stringIter b 0), _, _, _, _, ?_, .inl rfl, hk, F2, ?_, .inl (Nat.lt_succ_self _)⟩
  · simp [execOp, ho, Instr.range, hc, run_underlying hu]
  · simp [conV, conC, Ren.set, Ren.adr]
theorem run_next_on {r : Nat} {b : ByteArray} {pos : Nat} {ty : TypeId} (hh : w.heap[r]? = some (.stringIter b pos)) :
    (Instr.next (.pointer (some ⟨r, 0, none⟩)) true ty).run P w = if pos < b.size then .ok (.tuple #[.bool true, .int .i64 pos, .int .i32 ((Utf8.decode b pos).1 : Nat)]) { w with heap := w.heap.setIfInBounds r (.stringIter b (pos + (Utf8.decode b pos).2)) } else .ok (.tuple #[.bool false]) w := by
  by_cases h : pos < b.size
  · simp [Instr.next, getObj, setObj, Sem.run, hh, h, goInt]
  · simp [Instr.next, getObj, setObj, Sem.run, hh, h]
theorem s_next {x : Operand} (ho : o.op = .next x true) (F : Fit E R s a w) (h : stepA T md s (.next x true) k) : Out P E a w o k := by
  simp only [stepA, AS.on_eq] at h
  obtain ⟨p, hk, hc, hp0⟩ := onC_sound F h
  clear h
  split at hk <;> try exact hk.elim
  rename_i id
  split at hk <;> try exact hk.elim
  rename_i b pos hm
  obtain ⟨hh, hd⟩ := F.hp.blk _ _ hm
  simp only [conC, Ren.adr, hd, Nat.add_zero] at hc
  have hlt2 : R.ρ id < w.heap.size := (Array.getElem?_eq_some_iff.1 hh).1
  by_cases hlt : pos < b.size
  · have hk := hk.1 hlt
    refine ⟨.value (.tuple #[.bool true, .int .i64 pos, .int .i32 ((Utf8.decode b pos).1 : Nat)]), { w with heap := w.heap.setIfInBounds (R.ρ id) (.stringIter b (pos + (Utf8.decode b pos).2)) }, _, R, _, _, ?_, .inl rfl, hk, F.wrote hm rfl (grownBy_setObj w (R.ρ id) _) (by intro ds e; rw [hh] at e; cases e) ⟨by simp [hlt2], hd⟩ rfl trivial, ?_, ?_⟩
    · simp [execOp, ho, hc, run_next_on hh, hlt, Sem.run]
    · refine ⟨_, rfl, rfl, ?_⟩
      intro i e hi
      match i, hi with
      | 0, hi => simp at hi; subst hi; exact ⟨_, rfl, rfl⟩
      | 1, hi => simp at hi; subst hi; exact ⟨_, rfl, rfl⟩
      | 2, hi => simp at hi; subst hi; exact ⟨_, rfl, rfl⟩
    · intro e he; simp at he; rcases he with rfl | rfl | rfl <;> trivial
  · have hk := hk.2 hlt
    refine Out.mk (u := .tuple #[.bool false]) ?_ hk F ⟨_, rfl, rfl, ?_⟩ ?_
    · simp [execOp, ho, hc, run_next_on hh, hlt, Sem.run]
    · intro i e hi
      match i, hi with
      | 0, hi => simp at hi; subst hi; exact ⟨_, rfl, rfl⟩
    · intro e he; simp at he; subst he; trivial


/-! ### Reading and writing slices -/
theorem rdS_sound (P : Program) {q : AC} {z n sl : Nat} {kk : List AC → Prop} {u : Value} (F : Fit E R s a w) (hc : conC R q u) (hsl : slLen q = some sl) (hn : n ≤ sl) (hz : 0 < z) (h : rdS s q z n kk) :
    ∃ nw, kk nw ∧ LL s.nx nw ∧ nw.length = n * z ∧ (Builtin.lenOf u).run P w = .ok sl w ∧ ∃ vs : List Value, vs.length = n * z ∧ (Builtin.firstCells z n u).run P w = .ok vs.toArray w ∧ conL R nw vs.toArray 0 ∧ ∀ v ∈ vs, v.oneCell' = true := by
  cases q <;> simp only [rdS] at h <;> try exact h.elim
  · rename_i id off len cap
    simp only [slLen, Option.some.injEq] at hsl; subst hsl
    obtain ⟨b, cs, ⟨h1, hk⟩, hid, hb, hB, hbl⟩ := onCells_sound F h
    obtain ⟨ad, cp, hv, _, had, _⟩ := hc
    obtain ⟨vs, e1, e5, e2, e3, e4⟩ := run_cells (P := P) hB hb off (n * z) h1
    refine ⟨_, hk, ((ABlk.lt_cells hbl hb).drop _).take _, by simp; omega, by simp [hv, Builtin.lenOf], vs, e1, ?_, e3, e4⟩
    by_cases hn0 : n = 0
    · subst hn0
      have : vs = [] := List.eq_nil_of_length_eq_zero (by rw [e1]; simp)
      subst this
      simp [hv, Builtin.firstCells, loadCells, loadCellsFrom]
    · simp [hv, Builtin.firstCells, had (by omega), e5]
  · rename_i id len
    simp only [slLen, Option.some.injEq] at hsl; subst hsl
    split at h <;> try exact h.elim
    rename_i e' z' cs hlk
    obtain ⟨h1, hk⟩ := h
    have hB := F.hp.blk _ _ hlk
    have hd0 : R.δ id = 0 := by obtain ⟨_, _, hd0, _⟩ := hB; exact hd0
    obtain ⟨vs, e1, e5, e2, e3, e4⟩ := run_cells (P := P) hB (b := .row e' z' cs) rfl 0 (n * z) (by omega)
    refine ⟨_, hk, LL.take (F.wf.hp _ _ hlk).2 _, by simp; omega, by simp [hc.1, Builtin.lenOf], vs, e1, ?_, by simpa using e3, e4⟩
    simp [hc.1, Builtin.firstCells, show (⟨R.ρ id, 0, none⟩ : Addr) = R.adr id 0 by simp [Ren.adr, hd0], e5]
  · simp only [slLen, Option.some.injEq] at hsl; subst hsl
    obtain ⟨rfl, hk⟩ := h
    simp only [conC] at hc
    exact ⟨_, hk, fun x hx => (List.not_mem_nil hx).elim, by simp, by simp [hc, Builtin.lenOf], [], by simp, by simp [hc, Builtin.firstCells], by intro j x hj; simp at hj, by simp⟩
  · rename_i id off len
    simp only [slLen, Option.some.injEq] at hsl; subst hsl
    obtain ⟨b, cs, ⟨h1, hk⟩, hid, hb, hB, hbl⟩ := onCells_sound F h
    obtain ⟨vs, e1, e5, e2, e3, e4⟩ := run_cells (P := P) hB hb off (n * z) h1
    rcases hc with ⟨ad, cp, hv, had, _⟩ | ⟨h0, hv⟩
    · refine ⟨_, hk, ((ABlk.lt_cells hbl hb).drop _).take _, by simp; omega, by simp [hv, Builtin.lenOf], vs, e1, ?_, e3, e4⟩
      by_cases hn0 : n = 0
      · subst hn0
        have : vs = [] := List.eq_nil_of_length_eq_zero (by rw [e1]; simp)
        subst this
        simp [hv, Builtin.firstCells, loadCells, loadCellsFrom]
      · simp [hv, Builtin.firstCells, had (by omega), e5]
    · have hn0 : n = 0 := by omega
      subst hn0
      have : vs = [] := List.eq_nil_of_length_eq_zero (by rw [e1]; simp)
      subst this
      exact ⟨_, hk, ((ABlk.lt_cells hbl hb).drop _).take _, by simp, by simp [hv, h0, Builtin.lenOf], [], by simp, by simp [hv, Builtin.firstCells], e3, by simp⟩
  · rename_i id off len c0 z'
    simp only [slLen, Option.some.injEq] at hsl; subst hsl
    split at h <;> try exact h.elim
    rename_i e' z'' cs hlk
    obtain ⟨⟨rfl, h1⟩, hk⟩ := h
    have hB := F.hp.blk _ _ hlk
    have hd0 : R.δ id = 0 := by obtain ⟨_, _, hd0, _⟩ := hB; exact hd0
    obtain ⟨vs, e1, e5, e2, e3, e4⟩ := run_cells (P := P) hB (b := .row e' z'' cs) rfl (off * z') (n * z') h1
    refine ⟨_, hk, (LL.drop (F.wf.hp _ _ hlk).2 _).take _, by simp; omega, by simp [hc.1, Builtin.lenOf], vs, e1, ?_, e3, e4⟩
    simp [hc.1, Builtin.firstCells, show (⟨R.ρ id, off * z', none⟩ : Addr) = R.adr id (off * z') by simp [Ren.adr, hd0], e5]
theorem wrS_sound (P : Program) {p : AC} {z n pl : Nat} {nw : List AC} {kk : AS → Prop} {u : Value} {vs : List Value} (F : Fit E R s a w) (hc : conC R p u) (hpl : slLen p = some pl) (hn : n ≤ pl) (hz : 0 < z)
    (hlen : nw.length = n * z) (hvl : vs.length = n * z) (hvc : conL R nw vs.toArray 0) (hv1 : ∀ v ∈ vs, v.oneCell' = true) (hl : LL s.nx nw) (h : wrS s p z n nw kk) :
    ∃ s' w', kk s' ∧ Fit E R s' a w' ∧ s'.nx = s.nx ∧ ∃ base c, u = .slice base pl c ∧ ((base = none ∧ n = 0 ∧ w' = w) ∨ ∃ ad, base = some ad ∧ (storeCells ad vs).run P w = .ok () w') := by
  have nil : ∀ {b : ABlk} {cs : List AC} {id o : Nat}, n = 0 → lk s.hp id = some b → b.cells = some cs → Fit E R { s with hp := up s.hp id (b.with (cs.take o ++ nw ++ cs.drop (o + n * z))) } a w := fun {b cs id o} h0 hid hb => by
    subst h0
    have : nw = [] := List.eq_nil_of_length_eq_zero (by rw [hlen]; simp)
    subst this
    refine F.hp_congr fun i => ?_
    rw [lk_up]
    split
    · rename_i e; subst e
      rw [hid]
      simp only [List.append_nil, Nat.zero_mul, Nat.add_zero, List.take_append_drop]
      cases b <;> simp only [ABlk.cells, Option.some.injEq] at hb <;> first | (subst hb; rfl) | cases hb
    · rfl
  have vnil : n = 0 → vs = [] := fun h0 => List.eq_nil_of_length_eq_zero (by rw [hvl, h0]; simp)
  cases p <;> simp only [wrS, AS.on_eq] at h <;> try exact h.elim
  · rename_i id off len cap
    simp only [slLen, Option.some.injEq] at hpl; subst hpl
    obtain ⟨b, cs, ⟨⟨hw, h1⟩, hk⟩, hid, hb, hB, hbl⟩ := onCells_sound F h
    obtain ⟨ad, cp, hv, _, had, _⟩ := hc
    by_cases h0 : n = 0
    · exact ⟨_, w, hk, nil h0 hid hb, rfl, some ad, cp, hv, .inr ⟨ad, rfl, by rw [vnil h0]; simp [storeCells]⟩⟩
    · obtain ⟨c, ty, hh, hle, hd, hB'⟩ := hB.splice hb hw off nw vs (by omega) hvc (by omega)
      have hst := run_storeCells_at P (R.ρ id) off ty vs 0 c w hh (by simpa using hle) hv1
      have had := had (by omega)
      rw [hlen] at hB'
      refine ⟨_, _, hk, F.wrote hid hw (grownBy_setRow w (R.ρ id) _) (cells_notdf hB hb) hB' (by rw [ABlk.with_wr, hw]) ?_, rfl, some ad, cp, hv, .inr ⟨ad, rfl, ?_⟩⟩
      · have hcl := ABlk.lt_cells hbl hb
        exact ABlk.with_lt hb (((hcl.take _).app hl).app (hcl.drop _))
      · rw [had, show R.adr id off = ⟨R.ρ id, off, none⟩ by simp [Ren.adr, hd]]
        simpa using hst
  · rename_i id len
    simp only [slLen, Option.some.injEq] at hpl; subst hpl
    split at h <;> try exact h.elim
    rename_i e' z' cs hlk
    obtain ⟨h1, hk⟩ := h
    have hB := F.hp.blk _ _ hlk
    obtain ⟨c, ty, hh, hle, hd, hB'⟩ := hB.splice (b := .row e' z' cs) rfl rfl 0 nw vs (by omega) hvc (by omega)
    have hst := run_storeCells_at P (R.ρ id) 0 ty vs 0 c w hh (by simpa using hle) hv1
    simp only [ABlk.with, hlen, Nat.zero_add, List.take_zero, List.nil_append] at hB'
    refine ⟨_, _, hk, F.wrote hlk rfl (grownBy_setRow w (R.ρ id) _) (cells_notdf hB (b := .row e' z' cs) rfl) hB' rfl ?_, rfl, _, _, hc.1, .inr ⟨_, rfl, by simpa using hst⟩⟩
    exact hl.app (LL.drop (F.wf.hp _ _ hlk).2 _)
  · simp only [slLen, Option.some.injEq] at hpl; subst hpl
    obtain ⟨rfl, hk⟩ := h
    simp only [conC] at hc
    exact ⟨_, w, hk, F, rfl, none, 0, hc, .inl ⟨rfl, rfl, rfl⟩⟩
  · rename_i id off len c0 z'
    simp only [slLen, Option.some.injEq] at hpl; subst hpl
    split at h <;> try exact h.elim
    rename_i e' z'' cs hlk
    obtain ⟨⟨rfl, rfl, h1⟩, hk⟩ := h
    obtain ⟨hv, hkap, hlc⟩ := hc
    have hB := F.hp.blk _ _ hlk
    have hfit : off * z'' + nw.length ≤ R.κ id * z'' := by
      rw [hlen, ← hkap, Nat.add_mul]
      have := Nat.mul_le_mul_right z'' (show n ≤ c0 by omega)
      omega
    obtain ⟨c, hh, hle, hd, hB'⟩ := BRel.spliceX hB (by omega) hvc h1 hfit
    have hst := run_storeCells_at P (R.ρ id) (off * z'') e' vs 0 c w hh (by simpa using hle) hv1
    rw [hlen] at hB'
    refine ⟨_, _, hk, F.wrote hlk rfl (grownBy_setRow w (R.ρ id) _) (cells_notdf hB (b := .row e' z'' cs) rfl) hB' rfl ?_, rfl, _, _, hv, .inr ⟨_, rfl, by simpa using hst⟩⟩
    have hcl := (F.wf.hp _ _ hlk).2
    exact ((LL.take hcl _).app hl).app (LL.drop hcl _)

theorem s_cap (hT : TOk P T) {t : Nat} {x : Operand} {c : Call} (hc0 : c = { callee := .builtin .cap, args := #[x], argTypes := #[t] }) (ho : o.op = .call c) (F : Fit E R s a w) (h : stepA T md s (.call c) k) : Out P E a w o k := by
  subst hc0
  simp only [stepA, AS.on_eq] at h
  obtain ⟨p, hk, hc, hp0⟩ := onC_sound F h
  clear h
  split at hk <;> try exact hk.elim
  · rename_i id off n cp z e zz b zzz cc hq
    have hu : P.underlying t = some (.slice e) := (hT _ _ hq).d
    obtain ⟨hcv, _⟩ := hc
    exact Out.mk (u := .int .i64 cp) (by simp [execOp, ho, resolve, invoke, builtin, Builtin.cap_, hcv, run_underlying hu, goInt]) hk F rfl trivial
  · rename_i id off n cp e zz b zzz cc hq
    have hu : P.underlying t = some (.slice e) := (hT _ _ hq).d
    obtain ⟨ad, c1, hcv, hcap, _⟩ := hc
    obtain rfl := hcap cp rfl
    exact Out.mk (u := .int .i64 c1) (by simp [execOp, ho, resolve, invoke, builtin, Builtin.cap_, hcv, run_underlying hu, goInt]) hk F rfl trivial

theorem s_copy (hT : TOk P T) {t t' : Nat} {x y : Operand} {c : Call} (hc0 : c = { callee := .builtin .copy, args := #[x, y], argTypes := #[t, t'] }) (ho : o.op = .call c) (F : Fit E R s a w) (h : stepA T md s (.call c) k) : Out P E a w o k := by
  subst hc0
  simp only [stepA, AS.on_eq] at h
  obtain ⟨p, hA, hc, hp0⟩ := onC_sound F h
  clear h
  obtain ⟨q, hk, hd, hq0⟩ := onC_sound F hA
  clear hA
  split at hk <;> try exact hk.elim
  rename_i e zz b zzz cc dl sl hq hdl hsl
  have hu : P.underlying t = some (.slice e) := (hT _ _ hq).d
  split at hk <;> try exact hk.elim
  rename_i i hi
  obtain ⟨hz, hk⟩ := hk
  obtain ⟨inf, z0, hinf, e1, _⟩ := (hT _ _ hi).inf
  obtain ⟨nw, hk, hnl, hnlen, hlo, vs, hvl, hrd, hvc, hv1⟩ := rdS_sound P F hd hsl (Nat.min_le_left sl dl) hz hk
  obtain ⟨s', w', hk, F', hnx, base, cp, hv, hst⟩ := wrS_sound P F hc hdl (Nat.min_le_right sl dl) hz hnlen hvl hvc hv1 hnl hk
  refine ⟨.value (.int .i64 ((min sl dl : Nat) : Int)), w', _, R, s', _, ?_, .inl rfl, hk, F', rfl, trivial⟩
  have hmin : Nat.min sl dl = min sl dl := rfl
  rcases hst with ⟨rfl, h0, rfl⟩ | ⟨ad, rfl, hst⟩
  · simp [execOp, ho, resolve, invoke, builtin, Builtin.copy_, hv, run_underlying hu, hlo, hmin, sizeOf, typeInfo, hinf, e1, hrd, goInt]
  · simp [execOp, ho, resolve, invoke, builtin, Builtin.copy_, hv, run_underlying hu, hlo, hmin, sizeOf, typeInfo, hinf, e1, hrd, hst, goInt]

theorem s_clear (hT : TOk P T) {t : Nat} {x : Operand} {c : Call} (hc0 : c = { callee := .builtin .clear, args := #[x], argTypes := #[t] }) (ho : o.op = .call c) (F : Fit E R s a w) (h : stepA T md s (.call c) k) : Out P E a w o k := by
  subst hc0
  simp only [stepA, AS.on_eq] at h
  obtain ⟨p, hk, hc, hp0⟩ := onC_sound F h
  clear h
  split at hk <;> try exact hk.elim
  rename_i e zz b zzz cc n hq hdl
  have hu : P.underlying t = some (.slice e) := (hT _ _ hq).d
  split at hk <;> try exact hk.elim
  rename_i i hi
  obtain ⟨⟨hz, hzl⟩, hk⟩ := hk
  obtain ⟨z0, hz0, hzs, hzc, _⟩ := (hT _ _ hi).zeroR w
  have hsz : (Builtin.zeroCells z0.cells n).size = n * i.size := by rw [size_zeroCells, hzs, hzl]
  have hcon := zeroCells_con (R := R) (by omega) hzs hzc n
  have hrl : (rep n i.zero).length = n * i.size := by rw [rep_len, hzl]
  obtain ⟨s', w', hk, F', hnx, base, cp, hv, hst⟩ := wrS_sound P F hc hdl (Nat.le_refl n) hz hrl (by simpa using hsz) hcon (fun v hv => by
    obtain ⟨j, hj⟩ := List.mem_iff_getElem?.1 hv
    have hjl := (List.getElem?_eq_some_iff.1 hj).1
    obtain ⟨u, hu', hcu⟩ := hcon j _ (List.getElem?_eq_getElem (by rw [hrl]; simpa [hsz] using hjl))
    rw [Nat.zero_add, List.getElem?_toArray, hj] at hu'
    injection hu' with hu'
    exact hu' ▸ hcu.one) (rep_lt ((hT _ _ hi).zlt _) n) hk
  refine ⟨.value (.tuple #[]), w', _, R, s', _, ?_, .inl rfl, hk, F', ⟨#[], rfl, rfl, by simp⟩, by intro e he; cases he⟩
  rcases hst with ⟨rfl, h0, rfl⟩ | ⟨ad, rfl, hst⟩
  · simp [execOp, ho, resolve, invoke, builtin, Builtin.clear_, hv, run_underlying hu]
  · by_cases h0 : n = 0
    · subst h0
      have : (Builtin.zeroCells z0.cells 0).toList = [] := List.eq_nil_of_length_eq_zero (by simpa using hsz)
      rw [this] at hst
      simp [storeCells] at hst
      subst hst
      simp [execOp, ho, resolve, invoke, builtin, Builtin.clear_, hv, run_underlying hu]
    · obtain ⟨m, rfl⟩ : ∃ m, n = m + 1 := ⟨n - 1, by omega⟩
      simp [execOp, ho, resolve, invoke, builtin, Builtin.clear_, hv, run_underlying hu, hz0, hst]

theorem step_sound (hT : TOk P T) (F : Fit E R s a w) (h : stepA T md s o.op k) : Out P E a w o k := by
  cases ho : o.op <;> rw [ho] at h
  case move x => exact s_move (.inl ho) F h
  case assign x => exact s_move (.inr ho) F h
  case pick => exact s_pick ho F h
  case alloc => exact s_alloc hT ho F h
  case box => exact s_box ho F h
  case build => exact s_build hT ho F h
  case buildSlice => exact s_buildSlice hT ho F h
  case load => exact s_load hT ho F h
  case store => exact s_store hT ho F h
  case nilCheck => exact s_nilCheck ho F h
  case binOp => exact s_binOp hT ho F h
  case unOp => exact s_unOp ho F h
  case convert => exact s_convert hT ho F h
  case makeFunc fn fs cs =>
    cases fn <;> first | exact s_makeFunc ho F h | exact h.elim
  case fieldAddr => exact s_fieldAddr hT ho F h
  case field => exact s_field hT ho F h
  case indexAddr => exact s_indexAddr hT ho F h
  case index => exact s_index hT ho F h
  case extract => exact s_extract ho F h
  case makeSlice => exact s_makeSlice hT ho F h
  case makeMap t r =>
    cases r with
    | none => exact s_makeMap ho F h
    | some x => exact h.elim
  case lookup => exact s_lookup hT ho F h
  case mapUpdate => exact s_mapUpdate hT ho F h
  case range => exact s_range hT ho F h
  case next x q =>
    cases q with
    | true => exact s_next ho F h
    | false => exact h.elim
  case slice t x lo hi mx =>
    cases mx with
    | none => exact s_slice hT ho F h
    | some y =>
      cases hi with
      | none => exact h.elim
      | some z => exact s_slice3 hT ho F h
  case call c =>
    obtain ⟨cal, args, ats⟩ := c
    have h' := h
    simp only [stepA, AS.on_eq] at h'
    split at h' <;> try exact h'.elim
    · rename_i x t h2 h3
      obtain rfl : args = #[x] := by rw [← h2, Array.toArray_toList]
      obtain rfl : ats = #[t] := by rw [← h3, Array.toArray_toList]
      exact s_len hT rfl ho F h
    · rename_i x t h2 h3
      obtain rfl : args = #[x] := by rw [← h2, Array.toArray_toList]
      obtain rfl : ats = #[t] := by rw [← h3, Array.toArray_toList]
      exact s_cap hT rfl ho F h
    · rename_i x y t t' h2 h3
      obtain rfl : args = #[x, y] := by rw [← h2, Array.toArray_toList]
      obtain rfl : ats = #[t, t'] := by rw [← h3, Array.toArray_toList]
      exact s_copy hT rfl ho F h
    · rename_i x t h2 h3
      obtain rfl : args = #[x] := by rw [← h2, Array.toArray_toList]
      obtain rfl : ats = #[t] := by rw [← h3, Array.toArray_toList]
      exact s_clear hT rfl ho F h
    · rename_i x y h2
      obtain rfl : args = #[x, y] := by rw [← h2, Array.toArray_toList]
      exact s_min rfl ho F h
    · rename_i x y h2
      obtain rfl : args = #[x, y] := by rw [← h2, Array.toArray_toList]
      exact s_max rfl ho F h
    · rename_i x y t t' h2 h3
      exact s_append hT rfl h2 h3 ho F h
  all_goals exact h.elim

end Go.AH

/-
  Calls by contract, regions, and code over abstract states.
-/
namespace Go.AH
open Go.RowKit

/-! ### Other numbers for the same blocks -/
def AC.ren (q : Nat → Nat) : AC → AC
  | .ptr id o => .ptr (q id) o
  | .sl id o n c => .sl (q id) o n c
  | .row id n => .row (q id) n
  | .rs id o n => .rs (q id) o n
  | .map id => .map (q id)
  | .fn f a b => .fn f (a.map q) (b.map q)
  | .int k n => .int k n
  | .bool b => .bool b
  | .str s => .str s
  | .nilp => .nilp
  | .nils => .nils
  | .nilfn => .nilfn
  | .nilm => .nilm
  | .yv l => .yv l
  | .rp id o n c z => .rp (q id) o n c z
  | .tv t => .tv t
  | .tp t o => .tp t o
def AE.ren (q : Nat → Nat) : AE → AE
  | .c x => .c (x.ren q)
  | .g cs => .g (cs.map (AC.ren q))
def AV.ren (q : Nat → Nat) : AV → AV
  | .c x => .c (x.ren q)
  | .g cs => .g (cs.map (AC.ren q))
  | .t es => .t (es.map (AE.ren q))
def ABlk.ren (q : Nat → Nat) : ABlk → ABlk
  | .ro cs => .ro (cs.map (AC.ren q))
  | .own cs => .own (cs.map (AC.ren q))
  | .row e z cs => .row e z (cs.map (AC.ren q))
  | .mp m => .mp (m.map fun p => (p.1.map (AC.ren q), p.2.ren q))
  | .mi I => .mi I
  | .si s p => .si s p
  | .li I => .li I

def Ren.comp (R : Ren) (q : Nat → Nat) : Ren := ⟨fun i => R.ρ (q i), fun i => R.δ (q i), fun i => R.κ (q i), R.z⟩

theorem conC_ren {R : Ren} {q : Nat → Nat} {x : AC} {v : Value} : conC R (x.ren q) v ↔ conC (R.comp q) x v := by
  cases x <;> simp only [conC, AC.ren, Ren.comp] <;> try rfl
  simp only [List.map_map]
  rfl
theorem conL_ren {R : Ren} {q : Nat → Nat} {cs : List AC} {vs : Array Value} {o : Nat} : conL R (cs.map (AC.ren q)) vs o ↔ conL (R.comp q) cs vs o := by
  constructor
  · intro h i x hi
    obtain ⟨v, hv, hc⟩ := h i (x.ren q) (by simp [hi])
    exact ⟨v, hv, conC_ren.1 hc⟩
  · intro h i x hi
    rw [List.getElem?_map] at hi
    cases hq : cs[i]? with
    | none => simp [hq] at hi
    | some y =>
      simp [hq] at hi
      obtain ⟨v, hv, hc⟩ := h i y hq
      exact ⟨v, hv, hi ▸ conC_ren.2 hc⟩
theorem conE_ren {R : Ren} {q : Nat → Nat} {x : AE} {v : Value} : conE R (x.ren q) v ↔ conE (R.comp q) x v := by
  cases x <;> simp only [conE, AE.ren, conC_ren, conL_ren, List.length_map]
theorem conV_ren {R : Ren} {q : Nat → Nat} {x : AV} {v : Value} : conV R (x.ren q) v ↔ conV (R.comp q) x v := by
  cases x with
  | c x => simp only [conV, AV.ren, conC_ren]
  | g cs => simp only [conV, AV.ren, conL_ren, List.length_map]
  | t es =>
    simp only [conV, AV.ren, List.length_map, List.getElem?_map]
    constructor
    · rintro ⟨vs, a, b, c⟩
      refine ⟨vs, a, b, fun i e hi => ?_⟩
      obtain ⟨u, hu, hc⟩ := c i (e.ren q) (by simp [hi])
      exact ⟨u, hu, conE_ren.1 hc⟩
    · rintro ⟨vs, a, b, c⟩
      refine ⟨vs, a, b, fun i e hi => ?_⟩
      cases hq : es[i]? with
      | none => simp [hq] at hi
      | some y =>
        simp [hq] at hi
        obtain ⟨u, hu, hc⟩ := c i y hq
        exact ⟨u, hu, hi ▸ conE_ren.2 hc⟩
theorem BRel_ren {R : Ren} {q : Nat → Nat} {id : Nat} {w : World} {b : ABlk} : BRel R (q id) w (b.ren q) ↔ BRel (R.comp q) id w b := by
  cases b with
  | ro cs => simp only [BRel, ABlk.ren, conL_ren]; rfl
  | own cs => simp only [BRel, ABlk.ren, conL_ren, List.length_map]; rfl
  | row e z cs => simp only [BRel, ABlk.ren, conL_ren, List.length_map]; rfl
  | mp m =>
    simp only [BRel, ABlk.ren, List.length_map, List.getElem?_map]
    constructor
    · rintro ⟨es, cl, a, b, c⟩
      refine ⟨es, cl, a, b, fun i k v hi => ?_⟩
      obtain ⟨e, he, ⟨vs, h1, h2, h3⟩, h4⟩ := c i (k.map (AC.ren q)) (v.ren q) (by simp [hi])
      exact ⟨e, he, ⟨vs, h1, by simpa using h2, conL_ren.1 h3⟩, conC_ren.1 h4⟩
    · rintro ⟨es, cl, a, b, c⟩
      refine ⟨es, cl, a, b, fun i k v hi => ?_⟩
      cases hq : m[i]? with
      | none => simp [hq] at hi
      | some p =>
        obtain ⟨k', v'⟩ := p
        simp [hq] at hi
        obtain ⟨rfl, rfl⟩ := hi
        obtain ⟨e, he, ⟨vs, h1, h2, h3⟩, h4⟩ := c i k' v' hq
        exact ⟨e, he, ⟨vs, h1, by simpa using h2, conL_ren.2 h3⟩, conC_ren.2 h4⟩
  | mi I =>
    constructor
    · intro h
      obtain ⟨m, ⟨hI, hp⟩, hm⟩ := BRel.mi_iff.1 h
      exact BRel.mi_iff.2 ⟨m, ⟨hI, hp⟩, BRel.mp_prim (R := R) (R' := R.comp q) (id := q id) (id' := id) hp rfl hm⟩
    · intro h
      obtain ⟨m, ⟨hI, hp⟩, hm⟩ := BRel.mi_iff.1 h
      exact BRel.mi_iff.2 ⟨m, ⟨hI, hp⟩, BRel.mp_prim (R := R.comp q) (R' := R) (id := id) (id' := q id) hp rfl hm⟩
  | si s p => exact Iff.rfl
  | li I =>
    constructor
    · rintro ⟨cs, ⟨hI, hp⟩, c, t, a, d, e, b⟩
      exact ⟨cs, ⟨hI, hp⟩, c, t, a, d, e, conL_prim hp b⟩
    · rintro ⟨cs, ⟨hI, hp⟩, c, t, a, d, e, b⟩
      exact ⟨cs, ⟨hI, hp⟩, c, t, a, d, e, conL_prim hp b⟩
theorem ABlk.ren_wr (q : Nat → Nat) (b : ABlk) : (b.ren q).wr = b.wr := by cases b <;> rfl

theorem AC.ren_lt {q : Nat → Nat} {n m : Nat} {x : AC} (h : x.lt n) (hq : ∀ i, idOk n i → idOk m (q i)) : (x.ren q).lt m := by
  cases x <;> simp only [AC.lt, AC.ren] at h ⊢ <;> first | exact hq _ h | skip
  refine ⟨fun i hi => ?_, fun i hi => ?_⟩
  · obtain ⟨j, hj, rfl⟩ := List.mem_map.1 hi; exact hq _ (h.1 j hj)
  · obtain ⟨j, hj, rfl⟩ := List.mem_map.1 hi; exact hq _ (h.2 j hj)
theorem LL.ren {q : Nat → Nat} {n m : Nat} {cs : List AC} (h : LL n cs) (hq : ∀ i, idOk n i → idOk m (q i)) : LL m (cs.map (AC.ren q)) := fun x hx => by
  obtain ⟨y, hy, rfl⟩ := List.mem_map.1 hx; exact AC.ren_lt (h y hy) hq
theorem AE.ren_lt {q : Nat → Nat} {n m : Nat} {x : AE} (h : x.lt n) (hq : ∀ i, idOk n i → idOk m (q i)) : (x.ren q).lt m := by
  cases x
  · exact AC.ren_lt h hq
  · exact LL.ren h hq
theorem AV.ren_lt {q : Nat → Nat} {n m : Nat} {x : AV} (h : x.lt n) (hq : ∀ i, idOk n i → idOk m (q i)) : (x.ren q).lt m := by
  cases x
  · exact AC.ren_lt h hq
  · exact LL.ren h hq
  · intro e he; obtain ⟨y, hy, rfl⟩ := List.mem_map.1 he; exact AE.ren_lt (h y hy) hq
theorem ABlk.ren_lt {q : Nat → Nat} {n m : Nat} {b : ABlk} (h : b.lt n) (hq : ∀ i, idOk n i → idOk m (q i)) : (b.ren q).lt m := by
  cases b
  · exact LL.ren h hq
  · exact LL.ren h hq
  · exact LL.ren h hq
  · intro p hp; obtain ⟨y, hy, rfl⟩ := List.mem_map.1 hp; exact ⟨LL.ren (h y hy).1 hq, AC.ren_lt (h y hy).2 hq⟩
  · trivial
  · trivial
  · trivial

/-! ### A function's contract -/
structure FSpec (P : Program) (f : FuncId) (args : List AV) (hp : List (Nat × ABlk)) (k : Nat) (Post : AV → List (Nat × ABlk) → Nat → Prop) : Prop where
  call : ∀ (vs : Array Value) (w : World), (callFunc f vs).run P w = .ok (.enter f vs) w
  run : ∀ (w : World) (R : Ren) (vs : Array Value), R.ok → vs.size = args.length → (∀ (i : Nat) (v : AV), args[i]? = some v → ∃ u : Value, vs[i]? = some u ∧ conV R v u) → HRel R hp w →
    Calls P f vs w fun e w' => ∃ u r hp' k' R', e = .returned u ∧ Post r hp' k' ∧ R'.ok ∧ Agree k R R' ∧ k ≤ k' ∧ conV R' r u ∧ r.lt k' ∧ HRel R' hp' w' ∧ (hp'.map Prod.fst).Nodup ∧
      (∀ i b, lk hp' i = some b → (i < k' ∨ GB ≤ i) ∧ b.lt k') ∧
      (∀ i b, lk hp' i = some b → b.wr = true → (∃ i0 b0, lk hp i0 = some b0 ∧ b0.wr = true ∧ R.ρ i0 = R'.ρ i) ∨ w.heap.size ≤ R'.ρ i) ∧
      Fr (fun j => ∃ i b, lk hp i = some b ∧ b.wr = true ∧ R.ρ i = j) w w' ∧ ∀ b, R'.z b ≠ none → R.z b ≠ none ∨ (∃ i b0, lk hp i = some b0 ∧ b0.wr = true ∧ R.ρ i = b) ∨ w.heap.size ≤ b

def qq (l : List Nat) (n : Nat) (i : Nat) : Nat := if GB ≤ i then i else match l[i]? with | some j => j | none => n + (i - l.length)

def behind (l : List Nat) (n : Nat) (hp0 : List (Nat × ABlk)) : List (Nat × ABlk) → List (Nat × ABlk) → List (Nat × ABlk)
  | [], H => H
  | (i, b) :: r, H => match lk hp0 i with
    | some (.ro _) => behind l n hp0 r H
    | _ => if b.wr then up (behind l n hp0 r H) (qq l n i) (b.ren (qq l n)) else behind l n hp0 r H
def gone (l : List Nat) (n : Nat) : List (Nat × ABlk) → List (Nat × ABlk) → List (Nat × ABlk)
  | [], H => H
  | (i, b) :: r, H => if b.wr then del (gone l n r H) (qq l n i) else gone l n r H

def Gives (b' b : ABlk) : Prop := b' = b ∨ ∃ cs cs', b = .ro cs ∧ b'.cells = some cs' ∧ (cs = cs' ∨ cs = [])
theorem Gives.eq {b' b : ABlk} (h : Gives b' b) (hw : b.wr = true) : b' = b := by
  rcases h with h | ⟨cs, _, h, _⟩
  · exact h
  · subst h; cases hw
theorem Gives.rel {R : Ren} {id : Nat} {w : World} {b' b : ABlk} (h : Gives b' b) (hb : BRel R id w b') : BRel R id w b := by
  rcases h with h | ⟨cs, cs', h, hc, he⟩
  · exact h ▸ hb
  · subst h
    obtain ⟨c, t, z, h1, h2, _⟩ := hb.cell hc
    rcases he with rfl | rfl
    · exact ⟨c, t, z, h1, h2⟩
    · exact ⟨c, t, z, h1, fun i x hi => by simp at hi⟩

structure CallOk (P : Program) (f : FuncId) (vs : List AV) (s : AS) (kk : AV → AS → Prop) (args : List AV) (hp0 : List (Nat × ABlk)) (l : List Nat) (Post : AV → List (Nat × ABlk) → Nat → Prop) : Prop where
  spec : FSpec P f args hp0 l.length Post
  old : ∀ i ∈ l, idOk s.nx i
  args : args.map (AV.ren (qq l s.nx)) = vs
  heap : ∀ i b, lk hp0 i = some b → (i < l.length ∨ GB ≤ i) ∧ ∃ b', lk s.hp (qq l s.nx i) = some b' ∧ Gives b' (b.ren (qq l s.nx))
  inj : ∀ i j b c, lk hp0 i = some b → lk hp0 j = some c → i ≠ j → b.wr = true → qq l s.nx i ≠ qq l s.nx j
  k : ∀ r hp' k', Post r hp' k' → s.nx + (k' - l.length) ≤ GB ∧ kk (r.ren (qq l s.nx)) { s with hp := behind l s.nx hp0 hp' (gone l s.nx hp0 s.hp), nx := s.nx + (k' - l.length) }

def CallE (P : Program) (f : FuncId) (vs : List AV) (s : AS) (kk : AV → AS → Prop) : Prop :=
  ∃ v, kk v s ∧ ∀ (E : Env) (R : Ren) (a : Act) (w : World) (us : Array Value), Fit E R s a w → us.size = vs.length → (∀ (i : Nat) (x : AV), vs[i]? = some x → ∃ u : Value, us[i]? = some u ∧ conV R x u) →
    ∃ u, (callFunc f us).run P w = .ok (.value u) w ∧ conV R v u ∧ v.lt s.nx
def CallA (P : Program) (f : FuncId) (vs : List AV) (s : AS) (kk : AV → AS → Prop) : Prop :=
  (∃ args hp0 l Post, CallOk P f vs s kk args hp0 l Post) ∨ CallE P f vs s kk

theorem lk_none_of_nodup {β : Type} {i : Nat} {b : β} {r : List (Nat × β)} (h : (((i, b) :: r).map Prod.fst).Nodup) : lk r i = none := by
  have h1 : i ∉ r.map Prod.fst := by simpa using (List.nodup_cons.1 h).1
  clear h
  induction r with
  | nil => rfl
  | cons p r ih =>
    obtain ⟨j, c⟩ := p
    simp only [List.map_cons, List.mem_cons, not_or] at h1
    simp only [lk]
    rw [if_neg (fun e => h1.1 e.symm)]
    exact ih h1.2

theorem lk_behind {l : List Nat} {n : Nat} {hp0 : List (Nat × ABlk)} : ∀ (hp' H : List (Nat × ABlk)) (j : Nat) (c : ABlk), (hp'.map Prod.fst).Nodup → lk (behind l n hp0 hp' H) j = some c →
    (∃ i b, lk hp' i = some b ∧ (∀ cs, lk hp0 i ≠ some (.ro cs)) ∧ b.wr = true ∧ qq l n i = j ∧ c = b.ren (qq l n)) ∨ lk H j = some c
  | [], H, j, c, _, h => .inr h
  | (i, b) :: r, H, j, c, hnd, h => by
    have hn := lk_none_of_nodup hnd
    have ih := lk_behind (l := l) (n := n) (hp0 := hp0) r H j c (by simpa using (List.nodup_cons.1 hnd).2)
    have up' : lk (behind l n hp0 r H) j = some c → (∃ i' b', lk ((i, b) :: r) i' = some b' ∧ (∀ cs, lk hp0 i' ≠ some (.ro cs)) ∧ b'.wr = true ∧ qq l n i' = j ∧ c = b'.ren (qq l n)) ∨ lk H j = some c := by
      intro h
      rcases ih h with ⟨i', b', h1, h2⟩ | h1
      · refine .inl ⟨i', b', ?_, h2⟩
        simp only [lk]
        rw [if_neg]
        · exact h1
        · intro e; subst e; rw [hn] at h1; cases h1
      · exact .inr h1
    simp only [behind] at h
    split at h
    · exact up' h
    · rename_i hx
      split at h
      · rename_i hw
        rw [lk_up] at h
        split at h
        · rename_i e
          injection h with h
          exact .inl ⟨i, b, by simp [lk], fun cs e => hx cs e, hw, e, h.symm⟩
        · exact up' h
      · exact up' h

theorem lk_gone {l : List Nat} {n : Nat} : ∀ (hp0 H : List (Nat × ABlk)) (j : Nat) (c : ABlk), lk (gone l n hp0 H) j = some c → lk H j = some c ∧ ∀ i b, lk hp0 i = some b → b.wr = true → qq l n i ≠ j
  | [], H, j, c, h => ⟨h, by intro i b hb; cases hb⟩
  | (i, b) :: r, H, j, c, h => by
    simp only [gone] at h
    have ih := lk_gone (l := l) (n := n) r H j c
    split at h
    · rename_i hw
      rw [lk_del] at h
      split at h
      · cases h
      · rename_i hne
        obtain ⟨h1, h2⟩ := ih h
        refine ⟨h1, fun i' b' hb hw' => ?_⟩
        simp only [lk] at hb
        split at hb
        · rename_i e; subst e; exact hne
        · exact h2 i' b' hb hw'
    · rename_i hw
      obtain ⟨h1, h2⟩ := ih h
      refine ⟨h1, fun i' b' hb hw' => ?_⟩
      simp only [lk] at hb
      split at hb
      · injection hb with hb; subst hb; exact absurd hw' hw
      · exact h2 i' b' hb hw'

variable {P : Program} {T : Nat → Option TI} {md : Bool} {E : Env} {R R' : Ren} {s : AS} {a : Act} {w w' : World}

theorem Fit.worked {M : Nat → Prop} {hp' : List (Nat × ABlk)} (F : Fit E R s a w) (hfr : Fr M w w') (hM : ∀ j, M j → ∃ i b, lk s.hp i = some b ∧ b.wr = true ∧ R.ρ i = j)
    (hsub : ∀ i b, lk hp' i = some b → lk s.hp i = some b ∧ ¬ M (R.ρ i)) : Fit E R { s with hp := hp' } a w' := by
  have hME : ∀ j, M j → E.M j ∨ E.W.heap.size ≤ j := fun j hj => by
    obtain ⟨i, b, h1, h2, h3⟩ := hM j hj; exact h3 ▸ F.wr i b h1 h2
  exact {
    ok := F.ok
    nt := F.nt
    tm := F.tm
    hp := ⟨fun id b hb => (F.hp.blk id b (hsub id b hb).1).of_block (hfr.block _ (F.hp.blk id b (hsub id b hb).1).lt (hsub id b hb).2), fun i j b c hi hj => F.hp.inj i j b c (hsub i b hi).1 (hsub j c hj).1, (fun b c hb => by
      obtain ⟨t, v, h1⟩ := F.hp.zw b c hb
      refine ⟨t, v, (hfr.block b (Array.getElem?_eq_some_iff.1 h1).1 fun hm => ?_).trans h1⟩
      obtain ⟨i, b', e1, e2, e3⟩ := hM b hm
      have := F.hp.zn i b' e1 e2
      rw [e3, hb] at this
      cases this), fun id b hb => F.hp.zn id b (hsub id b hb).1⟩
    old := F.old
    wr := fun id b hb => F.wr id b (hsub id b hb).1
    nx := fun id b hb => F.nx id b (hsub id b hb).1
    nk := F.nk
    kk := F.kk
    fr := F.fr.trans hfr hME
    zg := F.zg
    df := by
      obtain ⟨ds, h1, hnd, h2⟩ := F.df
      refine ⟨ds, h1, hnd, fun d hd => ⟨(h2 d hd).1, (hfr.block d (Array.getElem?_eq_some_iff.1 (h2 d hd).2).1 ?_).trans (h2 d hd).2⟩⟩
      intro hm
      obtain ⟨i, b, e1, e2, e3⟩ := hM d hm
      have hB := F.hp.blk i b e1
      have h3 := (h2 d hd).2
      rw [← e3] at h3
      cases b <;> simp only [BRel] at hB <;> simp_all
    wf := ⟨F.wf.tm, fun i b hb => F.wf.hp i b (hsub i b hb).1⟩ }

theorem Fit.adds {hp' : List (Nat × ABlk)} (F : Fit E R s a w) (h : ∀ j c, lk hp' j = some c → BRel R j w c ∧ (c.wr = true → E.M (R.ρ j) ∨ E.W.heap.size ≤ R.ρ j) ∧ idOk s.nx j ∧ c.lt s.nx)
    (hi : ∀ i j b c, lk hp' i = some b → lk hp' j = some c → i ≠ j → b.wr = true → R.ρ i ≠ R.ρ j) (hz : ∀ j c, lk hp' j = some c → c.wr = true → R.z (R.ρ j) = none) : Fit E R { s with hp := hp' } a w where
  ok := F.ok
  nt := F.nt
  tm := F.tm
  hp := ⟨fun id b hb => (h id b hb).1, hi, F.hp.zw, hz⟩
  old := F.old
  wr := fun id b hb => (h id b hb).2.1
  nx := fun id b hb => (h id b hb).2.2.1
  nk := F.nk
  kk := F.kk
  fr := F.fr
  zg := F.zg
  df := F.df
  wf := ⟨F.wf.tm, fun i b hb => (h i b hb).2.2⟩

theorem callOk_sound {f : FuncId} {vs : List AV} {kk : AV → AS → Prop} {args : List AV} {hp0 : List (Nat × ABlk)} {l : List Nat} {Post : AV → List (Nat × ABlk) → Nat → Prop} (C : CallOk P f vs s kk args hp0 l Post) (F : Fit E R s a w)
    {us : Array Value} (hus : us.size = vs.length) (hu : ∀ (i : Nat) (v : AV), vs[i]? = some v → ∃ u : Value, us[i]? = some u ∧ conV R v u) :
    Calls P f us w fun e w' => ∃ u v s' R', e = .returned u ∧ kk v s' ∧ Fit E R' s' a w' ∧ conV R' v u ∧ v.lt s'.nx := by
  obtain ⟨q, hq⟩ : ∃ q, q = qq l s.nx := ⟨_, rfl⟩
  have qG : ∀ i, q (GB + i) = GB + i := fun i => by rw [hq]; simp [qq, GB]
  have hgv : ∀ i b, lk hp0 i = some b → b.wr = true → lk s.hp (q i) = some (b.ren q) := fun i b hb hw => by
    obtain ⟨_, b', h1, h2⟩ := C.heap i b hb
    rw [hq]; rw [h2.eq (by rw [ABlk.ren_wr]; exact hw)] at h1; exact h1
  have hex : ∀ i b, lk hp0 i = some b → ∃ b', lk s.hp (q i) = some b' := fun i b hb => by
    obtain ⟨_, b', h1, h2⟩ := C.heap i b hb
    exact ⟨b', by rw [hq]; exact h1⟩
  have H0 : HRel (R.comp q) hp0 w := ⟨fun i b hb => by
      obtain ⟨_, b', h1, h2⟩ := C.heap i b hb
      rw [← hq] at h1 h2
      exact BRel_ren.1 (h2.rel (F.hp.blk _ _ h1)), fun i j b c hi hj hne hw => by
      obtain ⟨c', h1⟩ := hex j c hj
      exact F.hp.inj (q i) (q j) _ _ (hgv i b hi hw) h1 (by rw [hq]; exact C.inj i j b c hi hj hne hw) (by rw [ABlk.ren_wr]; exact hw), F.hp.zw, fun i b hi hw => F.hp.zn (q i) _ (hgv i b hi hw) (by rw [ABlk.ren_wr]; exact hw)⟩
  refine (C.spec.run w (R.comp q) us ⟨fun i => by simp [Ren.comp, qG, F.ok.g], fun i => by simp [Ren.comp, qG, F.ok.d], fun i => by simp [Ren.comp, qG, F.ok.c]⟩ (by rw [hus, ← C.args]; simp) (fun i v hv => ?_) H0).mono ?_
  · obtain ⟨u, h1, h2⟩ := hu i (v.ren q) (by rw [← C.args, List.getElem?_map, hv, hq]; rfl)
    exact ⟨u, h1, conV_ren.1 h2⟩
  rintro e w' ⟨u, r, hp', k', R0, rfl, hpost, hok, hag, hkk', hr, hrl, hH, hnd, hlt, hwr, hfr, hzg⟩
  obtain ⟨hG, hk⟩ := C.k r hp' k' hpost
  rw [← hq] at hk
  let R2 : Ren := ⟨fun i => if i < s.nx ∨ GB ≤ i then R.ρ i else R0.ρ (l.length + (i - s.nx)), fun i => if i < s.nx ∨ GB ≤ i then R.δ i else R0.δ (l.length + (i - s.nx)), fun i => if i < s.nx ∨ GB ≤ i then R.κ i else R0.κ (l.length + (i - s.nx)), R0.z⟩
  have ag2 : Agree s.nx R R2 := ⟨fun i hi => by
    have : i < s.nx ∨ GB ≤ i := hi
    simp [R2, this], hag.zm⟩
  have ok2 : R2.ok := ⟨fun i => by simp [R2, F.ok.g], fun i => by simp [R2, F.ok.d], fun i => by simp [R2, F.ok.c]⟩
  have hnx := F.nk.2
  have ag3 : Agree k' R0 (R2.comp q) := by
   refine ⟨fun i hi => ?_, Zle.refl _⟩
   · skip
     by_cases h1 : GB ≤ i
     · obtain ⟨j, rfl⟩ := Nat.exists_eq_add_of_le h1
       have hqq := qG j
       refine ⟨?_, ?_, ?_⟩
       · simp [Ren.comp, hqq, R2, F.ok.g, hok.g]
       · simp [Ren.comp, hqq, R2, F.ok.d, hok.d]
       · obtain ⟨_, _, e⟩ := hag (GB + j) (.inr h1)
         simp [Ren.comp, hqq, R2] at e ⊢
         exact e.symm
     · have hi' : i < k' := by rcases hi with h | h; exact h; exact absurd h h1
       by_cases h2 : i < l.length
       · have e1 : q i = l[i] := by rw [hq]; simp [qq, h1, h2]
         have h3 : idOk s.nx l[i] := C.old _ (List.getElem_mem _)
         obtain ⟨a1, a2, a3⟩ := hag i (.inl h2)
         obtain ⟨b1, b2, b3⟩ := ag2 _ h3
         simp only [Ren.comp, e1] at a1 a2 a3 ⊢
         exact ⟨b1.trans a1.symm, b2.trans a2.symm, b3.trans a3.symm⟩
       · have e1 : q i = s.nx + (i - l.length) := by
           rw [hq]; simp [qq, h1, List.getElem?_eq_none (Nat.le_of_not_lt h2)]
         have h4 : ¬ (s.nx + (i - l.length) < s.nx ∨ GB ≤ s.nx + (i - l.length)) := by omega
         have h5 : l.length + (s.nx + (i - l.length) - s.nx) = i := by omega
         simp only [Ren.comp, e1, R2, if_neg h4, h5]
         exact ⟨trivial, trivial, trivial⟩
  have qok : ∀ i, idOk k' i → idOk (s.nx + (k' - l.length)) (q i) := fun i hi => by
    by_cases h1 : GB ≤ i
    · obtain ⟨j, rfl⟩ := Nat.exists_eq_add_of_le h1
      rw [qG]; exact .inr h1
    · have hi' : i < k' := by rcases hi with h | h; exact h; exact absurd h h1
      by_cases h2 : i < l.length
      · have e1 : q i = l[i] := by rw [hq]; simp [qq, h1, h2]
        rw [e1]; exact (C.old _ (List.getElem_mem _)).mono (Nat.le_add_right _ _)
      · have e1 : q i = s.nx + (i - l.length) := by
          rw [hq]; simp [qq, h1, List.getElem?_eq_none (Nat.le_of_not_lt h2)]
        rw [e1]; left; omega
  -- what was the caller's
  have F1 := F.worked (hp' := gone l s.nx hp0 s.hp) hfr (fun j ⟨i, b, h1, h2, h3⟩ => ⟨q i, b.ren q, hgv i b h1 h2, by rw [ABlk.ren_wr]; exact h2, h3⟩)
    (fun i b hb => by
      obtain ⟨h1, h2⟩ := lk_gone _ _ _ _ hb
      refine ⟨h1, ?_⟩
      rintro ⟨i', b', e1, e2, e3⟩
      refine F.hp.inj (q i') i _ b (hgv i' b' e1 e2) h1 (by rw [hq]; exact h2 i' b' e1 e2) (by rw [ABlk.ren_wr]; exact e2) e3)
  have F2 := F1.renZ (m := s.nx + (k' - l.length)) ag2 ok2 (Nat.le_add_right _ _) hG hH.zw (fun j c hj hw => by
      have h1 := (lk_gone _ _ _ _ hj).1
      have hlt := (F.hp.blk j c h1).lt
      cases e : R2.z (R.ρ j) with
      | none => rfl
      | some x =>
        rcases hzg (R.ρ j) (by rw [show R0.z (R.ρ j) = R2.z (R.ρ j) from rfl, e]; simp) with h2 | ⟨i', b', e1, e2, e3⟩ | h2
        · exact absurd (F.hp.zn j c h1 hw) h2
        · exact absurd e3 (F.hp.inj (q i') j _ c (hgv i' b' e1 e2) h1 (by rw [hq]; exact (lk_gone _ _ _ _ hj).2 i' b' e1 e2) (by rw [ABlk.ren_wr]; exact e2))
        · omega) (fun b hb => by
      rcases hzg b hb with h | ⟨i', b', e1, e2, e3⟩ | h
      · exact .inl h
      · subst e3; exact .inr (F.wr (q i') _ (hgv i' b' e1 e2) (by rw [ABlk.ren_wr]; exact e2))
      · exact .inr (.inr (Nat.le_trans F.fr.size h)))
  have hold : ∀ j c, lk (gone l s.nx hp0 s.hp) j = some c → R2.ρ j = R.ρ j ∧ R.ρ j < w.heap.size := fun j c hj => by
    have h1 := (lk_gone _ _ _ _ hj).1
    exact ⟨(ag2 j (F.wf.hp j c h1).1).1, (F.hp.blk j c h1).lt⟩
  have hnew : ∀ i b, lk hp' i = some b → R2.ρ (q i) = R0.ρ i := fun i b hb => (ag3 i (hlt i b hb).1).1
  have F3 := F2.adds (hp' := behind l s.nx hp0 hp' (gone l s.nx hp0 s.hp)) (fun j c hj => by
      rcases lk_behind hp' _ j c hnd hj with ⟨i, b, h1, h2, h3, h4, h5⟩ | h1
      · rw [← hq] at h4 h5
        subst h4; subst h5
        have hid := (hlt i b h1).1
        refine ⟨BRel_ren.2 (BRel.agree ag3 hid (hlt i b h1).2 (hH.blk i b h1)), fun _ => ?_, qok i hid, ABlk.ren_lt (hlt i b h1).2 qok⟩
        rw [hnew i b h1]
        rcases hwr i b h1 h3 with ⟨i0, b0, g1, g2, g3⟩ | g1
        · rw [← g3]
          exact F.wr (q i0) _ (hgv i0 b0 g1 g2) (by rw [ABlk.ren_wr]; exact g2)
        · exact .inr (Nat.le_trans F.fr.size g1)
      · exact ⟨F2.hp.blk j c h1, F2.wr j c h1, F2.wf.hp j c h1⟩)
    (fun i j b c hi hj hne hw => by
      have mix : ∀ (i0 : Nat) (b0 : ABlk) (j0 : Nat) (c0 : ABlk), lk hp' i0 = some b0 → b0.wr = true → lk (gone l s.nx hp0 s.hp) j0 = some c0 → R2.ρ (q i0) ≠ R2.ρ j0 := by
        intro i0 b0 j0 c0 g1 g2 g3
        rw [hnew i0 b0 g1, (hold j0 c0 g3).1]
        rcases hwr i0 b0 g1 g2 with ⟨i1, b1, g4, g5, g8⟩ | g4
        · rw [← g8]
          obtain ⟨g6, g7⟩ := lk_gone _ _ _ _ g3
          exact F.hp.inj (q i1) j0 _ c0 (hgv i1 b1 g4 g5) g6 (by rw [hq]; exact g7 i1 b1 g4 g5) (by rw [ABlk.ren_wr]; exact g5)
        · have := (hold j0 c0 g3).2; omega
      rcases lk_behind hp' _ i b hnd hi with ⟨i0, b0, g1, g2, g3, g4, g5⟩ | g1
      · rw [← hq] at g4 g5
        rcases lk_behind hp' _ j c hnd hj with ⟨j0, c0, k1, k2, k3, k4, k5⟩ | k1
        · rw [← hq] at k4 k5
          subst g4; subst k4
          rw [hnew i0 b0 g1, hnew j0 c0 k1]
          exact hH.inj i0 j0 b0 c0 g1 k1 (fun e => hne (by rw [e])) g3
        · subst g4; exact mix i0 b0 j c g1 g3 k1
      · rcases lk_behind hp' _ j c hnd hj with ⟨j0, c0, k1, k2, k3, k4, k5⟩ | k1
        · rw [← hq] at k4 k5
          subst k4; exact fun e => mix j0 c0 i b k1 k3 g1 e.symm
        · exact F2.hp.inj i j b c g1 k1 hne hw)
    (fun j c hj hw => by
      rcases lk_behind hp' _ j c hnd hj with ⟨i, b, h1, h2, h3, h4, h5⟩ | h1
      · rw [← hq] at h4
        subst h4
        rw [hnew i b h1]
        exact hH.zn i b h1 h3
      · exact F2.hp.zn j c h1 hw)
  exact ⟨u, _, _, R2, rfl, hk, F3, conV_ren.2 (hr.agree ag3 hrl), AV.ren_lt hrl qok⟩

theorem callA_intro {f : FuncId} {vs : List AV} {s : AS} {kk : AV → AS → Prop} {args : List AV} {hp0 : List (Nat × ABlk)} {l : List Nat} {Post : AV → List (Nat × ABlk) → Nat → Prop} (C : CallOk P f vs s kk args hp0 l Post) : CallA P f vs s kk := .inl ⟨_, _, _, _, C⟩
theorem callA_elim {f : FuncId} {vs : List AV} {s : AS} {kk : AV → AS → Prop} (h : CallA P f vs s kk) : (∃ args hp0 l Post, CallOk P f vs s kk args hp0 l Post) ∨ CallE P f vs s kk := h
attribute [irreducible] CallA
end Go.AH

/-
  Regions and code over abstract states; a function's contract out of its body.
-/
namespace Go.AH
open Go.RowKit

def FW (r : Option Nat) : Fence := { Fence.wide with round := r }

variable {P : Program} {T : Nat → Option TI} {md : Bool} {E : Env} {R R' : Ren} {s : AS} {a : Act} {w w' : World} {n : Nat} {r : Option Nat}

theorem callsFW {f : FuncId} {args : Array Value} {X : Ending → World → Prop} (h : Calls P f args w X) : CallsIn (FW r) n P f args w X := by
  have h2 : CallsIn Fence.wide n P f args w X := callsIn_wide.2 h
  exact ⟨trivial, fun cs hr => h2.2 cs (room_wide _)⟩

def AV.p (i : Nat) : AV := .c (.ptr i 0)

def argsA (s : AS) : List Operand → (List AV → Prop) → Prop
  | [], k => k []
  | x :: r, k => onV s x fun v => argsA s r fun vs => k (v :: vs)

def opA (P : Program) (T : Nat → Option TI) (md : Bool) (s : AS) (o : Op) (k : AV → AS → Prop) : Prop :=
  match o with
  | .call c => match c.callee with
    | .value x => onC s x fun p => match p with
      | .fn f fs cs => argsA s c.args.toList fun vs => CallA P f (fs.map AV.p ++ vs ++ cs.map AV.p) s k
      | _ => False
    | _ => stepA T md s (.call c) k
  | o => stepA T md s o k

def putA (d : Option Tmp) (v : AV) (s : AS) (k : AS → Prop) : Prop := match d with
  | none => k s
  | some d => s.on fun tm hp nx nt k0 => lit (decide (d < nt)) (k ⟨(d, v) :: tm, hp, nx, nt, k0⟩)

def opsW (P : Program) (T : Nat → Option TI) (md : Bool) (all : List Oper) : List Oper → AS → (AS → Prop) → Prop
  | [], s, K => K s
  | o :: r, s, K => match o.guard with
    | none => opA P T md s o.op fun v s' => putA o.dst v s' fun s'' => opsW P T md all r s'' K
    | some (j, want) => match (all[j]?).bind (·.dst) with
      | some d => match lk s.tm d with
        | some (.c (.bool b)) =>
          (b = want → s.on fun tm hp nx nt k0 => opA P T md ⟨(d, .c (.bool want)) :: tm, hp, nx, nt, k0⟩ o.op fun v s' => putA o.dst v s' fun s'' => opsW P T md all r s'' K) ∧
          (b = (!want) → s.on fun tm hp nx nt k0 => putA o.dst (.t []) ⟨(d, .c (.bool (!want))) :: tm, hp, nx, nt, k0⟩ fun s'' => opsW P T md all r s'' K)
        | some (.t []) => putA o.dst (.t []) s fun s'' => opsW P T md all r s'' K
        | _ => False
      | none => False

def flatC : Code → Bool
  | .seq x y => flatC x && flatC y
  | .cond _ x y => flatC x && flatC y
  | .block _ c => flatC c
  | .loop c => flatC c
  | .scope c => flatC c
  | .rangeFunc .. => false
  | _ => true
def Top (c : Code) (n : Nat) (r : Option Nat) : Prop := (r = none ∧ 3 ≤ n) ∨ flatC c = true

def Tr (P : Program) (c : Code) (s : AS) (Q : Exit → AS → Prop) : Prop :=
  ∀ (E : Env) (R : Ren) (a : Act) (w : World) (n : Nat) (r : Option Nat), Fit E R s a w → Top c n r → c.wpIn (FW r) n P (fun e a' w' => ∃ R' s', Q e s' ∧ Fit E R' s' a' w') a w

def thenA (k : AS → Prop) (Q : Exit → AS → Prop) : Exit → AS → Prop
  | .normal, s => k s
  | e, s => Q e s
def blockA (id : Nat) (Q : Exit → AS → Prop) : Exit → AS → Prop
  | .exit i, s => if i = id then Q .normal s else Q (.exit i) s
  | e, s => Q e s
def noGotoA (Q : Exit → AS → Prop) : Exit → AS → Prop
  | .goto _, _ => False
  | e, s => Q e s

def wpC (P : Program) (T : Nat → Option TI) (md : Bool) : Code → AS → (Exit → AS → Prop) → Prop
  | .skip, s, Q => Q .normal s
  | .region _ ops false, s, Q => opsW P T md ops.toList ops.toList s (Q .normal)
  | .region i ops true, s, Q => Tr P (.region i ops true) s Q
  | .seq x y, s, Q => wpC P T md x s (thenA (fun s' => wpC P T md y s' Q) Q)
  | .cond c x y, s, Q => onC s c fun q => match q with
    | .bool b => (b = true → wpC P T md x s Q) ∧ (b = false → wpC P T md y s Q)
    | _ => False
  | .block i c, s, Q => wpC P T md c s (blockA i Q)
  | .loop c, s, Q => Tr P (.loop c) s Q
  | .rangeFunc f ps x c, s, Q => Tr P (.rangeFunc f ps x c) s Q
  | .exit i, s, Q => Q (.exit i) s
  | .scope c, s, Q => wpC P T md c s (noGotoA Q)
  | .label _, s, Q => Q .normal s
  | .goto _, _, _ => False
  | .ret, s, Q => Q .ret s
  | .refuse _, _, _ => False

/-! ### Soundness -/
theorem argsA_sound : ∀ (l : List Operand) {k : List AV → Prop} (F : Fit E R s a w), argsA s l k → ∃ vs, k vs ∧ vs.length = l.length ∧ ∀ (i : Nat) (v : AV), vs[i]? = some v → ∃ u : Value, (l.map a.eval)[i]? = some u ∧ conV R v u
  | [], k, F, h => ⟨[], h, rfl, by simp⟩
  | x :: r, k, F, h => by
    simp only [argsA] at h
    obtain ⟨v, h, hc, hl⟩ := onV_sound F h
    obtain ⟨vs, h1, h2, h3⟩ := argsA_sound r F h
    refine ⟨v :: vs, h1, by simp [h2], fun i u hi => ?_⟩
    cases i with
    | zero => simp at hi; subst hi; exact ⟨_, rfl, hc⟩
    | succ i => simp at hi ⊢; simpa using h3 i u hi

theorem opA_sound (hT : TOk P T) {o : Oper} {k : AV → AS → Prop} {K : Act → World → Prop} {Q : Exit → Act → World → Prop} (h : opA P T md s o.op k) (F : Fit E R s a w)
    (hK : ∀ u w' s' R' v, k v s' → Fit E R' s' a w' → conV R' v u → v.lt s'.nx → K (a.put o.dst u) w') : o.wpIn (FW r) n P a w K Q := by
  refine ⟨fun f _ => trivial, ?_⟩
  have hnd : ∀ c, o.op ≠ .defer c := by
    intro c e
    rw [e] at h
    exact h
  rw [Oper.semAt_eq _ _ _ hnd]
  have step : stepA T md s o.op k → o.uponIn (FW r) n P a K Q ((execOp a.eval o).run P w) := by
    intro h
    obtain ⟨nx, w', u, R', s', v, h1, h2, h3, h4, h5, h6⟩ := step_sound hT F h
    rw [h1]
    rcases h2 with rfl | ⟨rfl, rfl⟩
    · exact hK u w' s' R' v h3 h4 h5 h6
    · exact hK undef w' s' R' v h3 h4 h5 h6
  unfold opA at h
  split at h
  · rename_i c ho
    split at h
    · rename_i x hcal
      obtain ⟨p, hk, hc, hp0⟩ := onC_sound F h
      split at hk <;> try exact hk.elim
      rename_i f fs cs
      obtain ⟨vs, hk, hlen, hvs⟩ := argsA_sound _ F hk
      have hcall := callA_elim hk
      simp only [conC] at hc
      have hcp : ∀ i, conV R (AV.p i) (R.p0 i) := fun i => rfl
      have husz : ((fs.map R.p0).toArray ++ c.args.map a.eval ++ (cs.map R.p0).toArray).size = (fs.map AV.p ++ vs ++ cs.map AV.p).length := by simp [hlen]
      have hus : ∀ (i : Nat) (v : AV), (fs.map AV.p ++ vs ++ cs.map AV.p)[i]? = some v → ∃ u : Value, ((fs.map R.p0).toArray ++ c.args.map a.eval ++ (cs.map R.p0).toArray)[i]? = some u ∧ conV R v u := fun i v hi => by
        have e1 : ((fs.map R.p0).toArray ++ c.args.map a.eval ++ (cs.map R.p0).toArray)[i]? = (fs.map R.p0 ++ c.args.toList.map a.eval ++ cs.map R.p0)[i]? := by
          rw [← Array.getElem?_toList]; simp
        rw [e1]
        rw [List.append_assoc, List.getElem?_append, List.getElem?_append] at hi
        rw [List.append_assoc, List.getElem?_append, List.getElem?_append]
        simp only [List.length_map, hlen] at hi ⊢
        split at hi
        · rename_i q; rw [if_pos q]
          rw [List.getElem?_map] at hi ⊢
          cases hq : fs[i]? with
          | none => simp [hq] at hi
          | some j => simp [hq] at hi; subst hi; exact ⟨_, rfl, hcp j⟩
        · rename_i q; rw [if_neg q]
          split at hi
          · rename_i q2; rw [if_pos q2]; exact hvs _ v hi
          · rename_i q2; rw [if_neg q2]
            rw [List.getElem?_map] at hi ⊢
            cases hq : cs[i - fs.length - c.args.toList.length]? with
            | none => rw [hq] at hi; cases hi
            | some j => rw [hq] at hi; injection hi with hi; subst hi; exact ⟨_, rfl, hcp j⟩
      rcases hcall with ⟨args, hp, l, Post, C⟩ | ⟨v, hkv, hx⟩
      rotate_left
      · obtain ⟨u, hu1, hu2, hu3⟩ := hx E R a w _ F husz hus
        have hrun : (execOp a.eval o).run P w = .ok (.value u) w := by
          simp [execOp, ho, resolve, hcal, hc, Deferred.ofValue, invoke]
          simpa using hu1
        rw [hrun]
        exact hK u w s R v hkv F hu2 hu3
      have hcalls := callOk_sound C F husz hus
      have hrun : (execOp a.eval o).run P w = .ok (.enter f ((fs.map R.p0).toArray ++ c.args.map a.eval ++ (cs.map R.p0).toArray)) w := by
        have h2 := C.spec.call ((fs.map R.p0).toArray ++ c.args.map a.eval ++ (cs.map R.p0).toArray) w
        simp [execOp, ho, resolve, hcal, hc, Deferred.ofValue, invoke]
        simpa using h2
      rw [hrun]
      refine ⟨fun h => by simp [FW, Fence.wide] at h, callsFW (hcalls.mono ?_)⟩
      rintro e w' ⟨u, v, s', R', rfl, hk, F', hc', hl'⟩
      exact hK u w' s' R' v hk F' hc' hl'
    · exact step (by rw [ho]; exact h)
  · exact step h

theorem putA_sound {d : Option Tmp} {v : AV} {k : AS → Prop} {u : Value} (F : Fit E R s a w) (h : putA d v s k) (hc : conV R v u) (hl : v.lt s.nx) : ∃ s', k s' ∧ Fit E R s' (a.put d u) w := by
  cases d with
  | none => exact ⟨s, h, F⟩
  | some d =>
    obtain ⟨h1, h2⟩ := lit_iff.1 h
    rw [decide_eq_true_eq] at h1
    exact ⟨_, h2, F.put h1 hc hl⟩

theorem conV_undef (R : Ren) : conV R (.t []) undef := ⟨#[], rfl, rfl, by simp⟩

theorem Fit.tm_again {d : Nat} {v : AV} (F : Fit E R s a w) (h : lk s.tm d = some v) : Fit E R { s with tm := (d, v) :: s.tm } a w :=
  F.tm_sub fun i b hb => by
    simp only [lk] at hb
    split at hb
    · rename_i e; subst e; rw [h]; exact hb
    · exact hb

theorem opsW_sound (hT : TOk P T) {ops : Array Oper} {K : AS → Prop} {Q : Exit → Act → World → Prop} (hQ : ∀ s' R' a' w', K s' → Fit E R' s' a' w' → Q .normal a' w') : ∀ (l pre : List Oper) (s : AS) (R : Ren) (a : Act) (w : World), ops.toList = pre ++ l →
    opsW P T md ops.toList l s K → Fit E R s a w → wpOpsIn (FW r) n P ops Q (List.range' pre.length l.length) a w
  | [], pre, s, R, a, w, _, h, F => by
    simp only [List.length_nil, List.range'_zero, wpOpsIn]
    exact hQ s R a w h F
  | o :: l, pre, s, R, a, w, hops, h, F => by
    have ih : ∀ (s : AS) (R : Ren) (a : Act) (w : World), opsW P T md ops.toList l s K → Fit E R s a w → wpOpsIn (FW r) n P ops Q (List.range' (pre ++ [o]).length l.length) a w := fun s R a w => opsW_sound hT hQ l (pre ++ [o]) s R a w (by simp [hops])
    have hlen : (pre ++ [o]).length = pre.length + 1 := by simp
    rw [hlen] at ih
    have ho : ops[pre.length]? = some o := by
      rw [← Array.getElem?_toList, hops]; simp
    simp only [List.length_cons, List.range'_succ, wpOpsIn, ho]
    simp only [opsW, AS.on_eq] at h
    have run : ∀ s, Fit E R s a w → (opA P T md s o.op fun v s' => putA o.dst v s' fun s'' => opsW P T md ops.toList l s'' K) → o.wpIn (FW r) n P a w (wpOpsIn (FW r) n P ops Q (List.range' (pre.length + 1) l.length)) Q := by
      intro s F h
      refine opA_sound hT h F ?_
      intro u w' s' R' v hk F' hc hl
      obtain ⟨s'', hk, F''⟩ := putA_sound F' hk hc hl
      exact ih s'' R' _ w' hk F''
    have skip : ∀ s, Fit E R s a w → (putA o.dst (.t []) s fun s'' => opsW P T md ops.toList l s'' K) → wpOpsIn (FW r) n P ops Q (List.range' (pre.length + 1) l.length) (a.put o.dst undef) w := by
      intro s F h
      obtain ⟨s'', hk, F''⟩ := putA_sound F h (conV_undef R) (fun e he => by cases he)
      exact ih s'' R _ w hk F''
    split at h
    · rename_i hg
      rw [if_pos (by simp [Region.wanted, hg])]
      exact run s F h
    · rename_i j want hg
      split at h <;> try exact h.elim
      rename_i d hd
      have hy : yielded ops a.tmps j = match a.tmps[d]? with | some (.bool b) => some b | _ => none := by
        have : (ops[j]?).bind (·.dst) = some d := by rw [← Array.getElem?_toList]; exact hd
        simp only [yielded, this, Option.bind_some]
        cases a.tmps[d]? with
        | none => rfl
        | some v => cases v <;> rfl
      split at h <;> try exact h.elim
      · rename_i b hb
        obtain ⟨u, hu, hc⟩ := F.tm d _ hb
        simp only [conV, conC] at hc
        subst hc
        have hy2 : yielded ops a.tmps j = some b := by rw [hy, hu]
        by_cases hbw : b = want
        · rw [if_pos (by simp [Region.wanted, hg, hy2, hbw])]
          exact run _ (F.tm_again (by rw [← hbw]; exact hb)) (h.1 hbw)
        · rw [if_neg (by simp [Region.wanted, hg, hy2, hbw])]
          have hb2 : b = !want := by cases b <;> cases want <;> simp_all
          exact ⟨fun f _ => trivial, skip _ (F.tm_again (by rw [← hb2]; exact hb)) (h.2 hb2)⟩
      · rename_i hb
        obtain ⟨u, hu, hc⟩ := F.tm d _ hb
        obtain ⟨vs, rfl, _, _⟩ := hc
        have hy2 : yielded ops a.tmps j = none := by rw [hy, hu]
        rw [if_neg (by simp [Region.wanted, hg, hy2])]
        exact ⟨fun f _ => trivial, skip s F h⟩

theorem stepR_scope {b : Frame} {k : List Item} {cs : List Frame} {c : Code} : step P (lone (b.atR a (.code (.scope c) :: k)) cs w) = .next (lone (b.atR a (.code c :: .inScope c :: k)) cs w) :=
  step_lone_go (by simp [stepG, stepG.exec, Frame.atR])
theorem stepR_inScope {b : Frame} {k : List Item} {cs : List Frame} {c : Code} : step P (lone (b.atR a (.inScope c :: k)) cs w) = .next (lone (b.atR a k) cs w) :=
  step_lone_go (by simp [stepG, stepG.exec, Frame.atR])
def noGotoW (Q : Exit → Act → World → Prop) : Exit → Act → World → Prop
  | .goto _, _, _ => False
  | e, a, w => Q e a w
theorem wpIn_scope {F : Fence} {c : Code} {Q : Exit → Act → World → Prop} (h : c.wpIn F n P (noGotoW Q) a w) : (Code.scope c).wpIn F n P Q a w := by
  intro b k cs hro hb hr
  have h0 : (lone (b.atR a (.code (.scope c) :: k)) cs w).fenced P F := fenced_calm hb hr rfl
  obtain ⟨e, a₁, w₁, hq, harr⟩ := h b (.inScope c :: k) cs hro hb hr
  cases e with
  | normal => exact ⟨.normal, a₁, w₁, hq, .head h0 stepR_scope (StepsIn.trans harr (.one (fenced_calm hb hr rfl) stepR_inScope))⟩
  | exit id => exact ⟨.exit id, a₁, w₁, hq, fun k' hk => .head h0 stepR_scope (harr.1 k' (by simp [exitTo, hk])), fun hr' hk => let ⟨k₁, h1, h2⟩ := harr.2 hr' (by simp [exitTo, hk]); ⟨k₁, h1, .head h0 stepR_scope h2⟩⟩
  | goto l => exact hq.elim
  | ret => exact ⟨_, a₁, w₁, hq, .of_steps (.one h0 stepR_scope) harr⟩
  | panic ch => exact ⟨_, a₁, w₁, hq, .of_steps (.one h0 stepR_scope) harr⟩
  | outgrown => exact ⟨_, a₁, w₁, hq, .of_steps (.one h0 stepR_scope) harr⟩

theorem Tr.elim {c : Code} {Q : Exit → AS → Prop} (h : Tr P c s Q) (F : Fit E R s a w) (ht : Top c n r) : c.wpIn (FW r) n P (fun e a' w' => ∃ R' s', Q e s' ∧ Fit E R' s' a' w') a w := h E R a w n r F ht
theorem Tr.intro {c : Code} {Q : Exit → AS → Prop} (h : ∀ (E : Env) (R : Ren) (a : Act) (w : World) (n : Nat) (r : Option Nat), Fit E R s a w → Top c n r → c.wpIn (FW r) n P (fun e a' w' => ∃ R' s', Q e s' ∧ Fit E R' s' a' w') a w) : Tr P c s Q := h

theorem wpC_sound (hT : TOk P T) : ∀ (c : Code) (s : AS) (Q : Exit → AS → Prop), wpC P T md c s Q → Tr P c s Q
  | .skip, s, Q, h => fun E R a w n r F ht => wpIn_skip ⟨R, s, h, F⟩
  | .region i ops false, s, Q, h => fun E R a w n r F ht => by
    refine wpIn_region ?_
    rw [List.range_eq_range', ← Array.length_toList]
    exact opsW_sound hT (fun s' R' a' w' hk F' => ⟨R', s', hk, F'⟩) ops.toList [] s R a w (by simp) h F
  | .region i ops true, s, Q, h => h
  | .seq x y, s, Q, h => fun E R a w n r F ht => by
    have htx : Top x n r := ht.imp_right fun h => by simp only [flatC, Bool.and_eq_true] at h; exact h.1
    have hty : Top y n r := ht.imp_right fun h => by simp only [flatC, Bool.and_eq_true] at h; exact h.2
    refine wpIn_seq (wpIn_mono (wpC_sound hT x s _ h E R a w n r F htx) ?_)
    rintro e a' w' ⟨R', s', hk, F'⟩
    cases e with
    | normal => exact wpC_sound hT y s' Q hk E R' a' w' n r F' hty
    | _ => exact ⟨R', s', hk, F'⟩
  | .cond c x y, s, Q, h => fun E R a w n r F ht => by
    obtain ⟨q, hk, hc, hp0⟩ := onC_sound F h
    split at hk <;> try exact hk.elim
    rename_i b
    simp only [conC] at hc
    have htx : Top x n r := ht.imp_right fun h => by simp only [flatC, Bool.and_eq_true] at h; exact h.1
    have hty : Top y n r := ht.imp_right fun h => by simp only [flatC, Bool.and_eq_true] at h; exact h.2
    cases b with
    | true => exact wpIn_cond_true hc (wpC_sound hT x s Q (hk.1 rfl) E R a w n r F htx)
    | false => exact wpIn_cond_false hc (wpC_sound hT y s Q (hk.2 rfl) E R a w n r F hty)
  | .block i c, s, Q, h => fun E R a w n r F ht => by
    refine wpIn_block (wpIn_mono (wpC_sound hT c s _ h E R a w n r F ht) ?_)
    rintro e a' w' ⟨R', s', hk, F'⟩
    cases e with
    | exit j =>
      simp only [Exit.inBlock]
      simp only [blockA] at hk
      split at hk
      · rename_i e; rw [if_pos e]; exact ⟨R', s', hk, F'⟩
      · rename_i e; rw [if_neg e]; exact ⟨R', s', hk, F'⟩
    | _ => exact ⟨R', s', hk, F'⟩
  | .loop c, s, Q, h => h
  | .rangeFunc f ps x c, s, Q, h => h
  | .exit i, s, Q, h => fun E R a w n r F ht => wpIn_exit ⟨R, s, h, F⟩
  | .scope c, s, Q, h => fun E R a w n r F ht => by
    refine wpIn_scope (wpIn_mono (wpC_sound hT c s _ h E R a w n r F ht) ?_)
    rintro e a' w' ⟨R', s', hk, F'⟩
    cases e with
    | goto l => exact hk.elim
    | _ => exact ⟨R', s', hk, F'⟩
  | .label l, s, Q, h => fun E R a w n r F ht => wpIn_label ⟨R, s, h, F⟩
  | .goto l, s, Q, h => h.elim
  | .ret, s, Q, h => fun E R a w n r F ht => wpIn_ret ⟨R, s, h, F⟩
  | .refuse y, s, Q, h => h.elim

attribute [irreducible] Tr
end Go.AH
