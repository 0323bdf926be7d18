/-
  The steps of A3 are what the machine does: slices made and grown; all steps together.
-/
import Derived.Test.YtfphkpdobbffeaaDoorAh7
import Derived.Laws.AppendOwnNone
set_option linter.unusedSimpArgs false
set_option linter.unusedVariables false
namespace Go.AH
open Go.RowKit

variable {P : Program} {T : Nat → Option TI} {md : Bool} {E : Env} {R : Ren} {s : AS} {a : Act} {w : World} {o : Oper} {k : AV → AS → Prop}

theorem rep_get (z : List AC) (hz : 0 < z.length) : ∀ (n j : Nat), (rep n z)[j]? = if j < n * z.length then z[j % z.length]? else none
  | 0, j => by simp [rep]
  | n + 1, j => by
    rw [rep, List.getElem?_append]
    by_cases h : j < z.length
    · rw [if_pos h, if_pos (by rw [Nat.add_mul]; omega), Nat.mod_eq_of_lt h]
    · rw [if_neg h, rep_get z hz n]
      have : j - z.length < n * z.length ↔ j < (n + 1) * z.length := by rw [Nat.add_mul]; omega
      simp only [this]
      rw [Nat.mod_eq_sub_mod (by omega : j ≥ z.length)]
theorem rep_len (z : List AC) : ∀ n, (rep n z).length = n * z.length
  | 0 => by simp [rep]
  | n + 1 => by rw [rep, List.length_append, rep_len z n, Nat.add_mul]; omega
theorem rep_lt {n : Nat} {z : List AC} (h : LL n z) : ∀ m, LL n (rep m z)
  | 0 => by intro x hx; cases hx
  | m + 1 => h.app (rep_lt h m)

theorem s_buildSlice (hT : TOk P T) {t len : Nat} {ps : Array (Nat × Operand)} (ho : o.op = .buildSlice t len ps) (F : Fit E R s a w) (h : stepA T md s (.buildSlice t len ps) k) : Out P E a w o k := by
  simp only [stepA, AS.on_eq] at h
  split at h <;> try exact h.elim
  rename_i e sz b z cc hq
  have hu : P.underlying t = some (.slice e) := (hT _ _ hq).d
  split at h <;> try exact h.elim
  rename_i i hi
  have hI := hT _ _ hi
  obtain ⟨⟨hG, h1, h2, h3⟩, h⟩ := h
  obtain ⟨z0, hz, hzs, hzc, hza⟩ := hI.zeroR w
  have hpos : 0 < i.zero.length := by omega
  have hzz : z0.cells.size = i.size := by omega
  obtain ⟨cs', vs', g1, g2, g3, g4, g5⟩ := lay_sound (place' := fun j => some (j * i.size, i.size)) (fun _ _ h => h) ps.toList (rep len i.zero) ((Array.range (len * i.size)).map (z0.cells[· % z0.cells.size]!)) F
    (rep_lt (hI.zlt _) len) (by simp [rep_len, h2]) (by
      intro j x hj
      rw [rep_get _ hpos] at hj
      split at hj
      · rename_i hlt
        obtain ⟨v, hv, hc⟩ := hzc R (j % i.zero.length) x hj
        refine ⟨v, ?_, hc⟩
        rw [Nat.zero_add] at hv ⊢
        rw [Array.getElem?_map, Array.getElem?_range, if_pos (by rw [← h2]; exact hlt)]
        simp only [Option.map_some, hzs]
        rw [getElem!_def, hv]
      · cases hj) h
  refine ⟨.value (.slice (some ⟨w.heap.size, 0, none⟩) len len), w.alloc (.cells vs' e), _, R.set s.nx w.heap.size 0 0, _, _, ?_, .inl rfl, g1, F.new hG g4 g5 g3 e, ?_, .inl (Nat.lt_succ_self _)⟩
  · have hle : ¬ (len * i.size > 2 ^ 24) := by omega
    have g2' := g2
    simp only [hzz] at g2'
    have hps : (ps.map fun (i, x) => (i, a.eval x)).toList = ps.toList.map fun p => (p.1, a.eval p.2) := by simp
    by_cases hl0 : len * i.size = 0
    · have hr : (Array.range (len * i.size)).map (fun x => (#[] : Array Value)[x % (#[] : Array Value).size]!) = (Array.range (len * i.size)).map (z0.cells[· % i.size]!) := by
        rw [hl0]; simp
      unfold execOp Instr.buildSlice
      simp only [ho, Sem.run_bind, run_underlying hu, Result.andThen_ok, hI.size, if_neg hle, if_pos hl0, Sem.run_pure, hps, hr, g2']
      simp [newRow]
    · unfold execOp Instr.buildSlice
      simp only [ho, Sem.run_bind, run_underlying hu, Result.andThen_ok, hI.size, if_neg hle, if_neg hl0, hz, Sem.run_pure, hps, hzz, g2']
      simp [newRow]
  · exact ⟨_, len, rfl, by simp, by simp [Ren.adr, Ren.set], Nat.le_refl _⟩

theorem s_len (hT : TOk P T) {t : Nat} {x : Operand} {c : Call} (hc0 : c = { callee := .builtin .len, args := #[x], argTypes := #[t] }) (ho : o.op = .call c) (F : Fit E R s a w) (h : stepA T md s (.call c) k) : Out P E a w o k := by
  subst hc0
  simp only [stepA, AS.on_eq] at h
  obtain ⟨p, hk, hc, hp0⟩ := onV_sound F h
  clear h
  split at hk <;> try exact hk.elim
  · rename_i id off n cap e sz b z cc hq
    have hu : P.underlying t = some (.slice e) := (hT _ _ hq).d
    obtain ⟨ad, cp, hcv, _⟩ := hc
    exact Out.mk (u := .int .i64 n) (by simp [execOp, ho, resolve, invoke, builtin, Builtin.len_, hcv, run_underlying hu, goInt]) hk F rfl trivial
  · rename_i id n e sz b z cc hq
    have hu : P.underlying t = some (.slice e) := (hT _ _ hq).d
    obtain ⟨hcv, _⟩ := hc
    exact Out.mk (u := .int .i64 n) (by simp [execOp, ho, resolve, invoke, builtin, Builtin.len_, hcv, run_underlying hu, goInt]) hk F rfl trivial
  · rename_i e sz b z cc hq
    have hu : P.underlying t = some (.slice e) := (hT _ _ hq).d
    simp only [conV, conC] at hc
    exact Out.mk (u := .int .i64 0) (by simp [execOp, ho, resolve, invoke, builtin, Builtin.len_, hc, run_underlying hu, goInt]) hk F rfl trivial
  · rename_i bs sz b z cc hq
    have hu : P.underlying t = some .string := (hT _ _ hq).d
    simp only [conV, conC] at hc
    exact Out.mk (u := .int .i64 bs.size) (by simp [execOp, ho, resolve, invoke, builtin, Builtin.len_, hc, run_underlying hu, goInt]) hk F rfl trivial
  · rename_i id off n e sz b z cc hq
    have hu : P.underlying t = some (.slice e) := (hT _ _ hq).d
    rcases hc with ⟨ad, cp, hcv, _⟩ | ⟨h0, hcv⟩
    · exact Out.mk (u := .int .i64 n) (by simp [execOp, ho, resolve, invoke, builtin, Builtin.len_, hcv, run_underlying hu, goInt]) hk F rfl trivial
    · subst h0
      exact Out.mk (u := .int .i64 (0 : Nat)) (by simp [execOp, ho, resolve, invoke, builtin, Builtin.len_, hcv, run_underlying hu, goInt]) hk F rfl trivial

theorem s_min {x y : Operand} {ts : Array TypeId} {c : Call} (hc0 : c = { callee := .builtin .min, args := #[x, y], argTypes := ts }) (ho : o.op = .call c) (F : Fit E R s a w) (h : stepA T md s (.call c) k) : Out P E a w o k := by
  subst hc0
  simp only [stepA, AS.on_eq] at h
  obtain ⟨p, hA, hc, hp0⟩ := onC_sound F h
  clear h
  obtain ⟨q, hk, hd, hq0⟩ := onC_sound F hA
  clear hA
  split at hk <;> try exact hk.elim
  rename_i k1 x1 k2 y1
  obtain ⟨rfl, hk⟩ := hk
  simp only [conC] at hc hd
  refine Out.mk (u := .int k1 (min x1 y1)) ?_ hk F rfl trivial
  simp [execOp, ho, resolve, invoke, builtin, Builtin.min_, Builtin.min2, hc, hd]
  rw [Int.min_def]; split <;> split <;> omega
theorem s_max {x y : Operand} {ts : Array TypeId} {c : Call} (hc0 : c = { callee := .builtin .max, args := #[x, y], argTypes := ts }) (ho : o.op = .call c) (F : Fit E R s a w) (h : stepA T md s (.call c) k) : Out P E a w o k := by
  subst hc0
  simp only [stepA, AS.on_eq] at h
  obtain ⟨p, hA, hc, hp0⟩ := onC_sound F h
  clear h
  obtain ⟨q, hk, hd, hq0⟩ := onC_sound F hA
  clear hA
  split at hk <;> try exact hk.elim
  rename_i k1 x1 k2 y1
  obtain ⟨rfl, hk⟩ := hk
  simp only [conC] at hc hd
  refine Out.mk (u := .int k1 (max x1 y1)) ?_ hk F rfl trivial
  simp [execOp, ho, resolve, invoke, builtin, Builtin.max_, Builtin.max2, hc, hd]
  rw [Int.max_def]; split <;> split <;> omega

theorem newsOf_sound (P : Program) {q : AC} {z : Nat} {kk : Nat → List AC → Prop} {u : Value} (F : Fit E R s a w) (hc : conC R q u) (h : stepA.newsOf s q z kk) :
    ∃ m nw, kk m nw ∧ LL s.nx nw ∧ nw.length = m * z ∧ ((u = .slice none 0 0 ∧ m = 0) ∨ ∃ ad c, ∃ news : List Value, u = .slice (some ad) m c ∧ news.length = m * z ∧ (∀ j v, news[j]? = some v → w.cell? (ad.add j) = some v) ∧
      conL R nw news.toArray 0 ∧ ∀ v ∈ news, v.oneCell' = true) := by
  cases q <;> simp only [stepA.newsOf] at h <;> try exact h.elim
  · rename_i id off len cap
    obtain ⟨b, cs, ⟨h1, hk⟩, hid, hb, hB, hbl⟩ := onCells_sound F h
    obtain ⟨ad, cp, hv, _, had, _⟩ := hc
    obtain ⟨vs, e1, _, e2, e3, e4⟩ := run_cells (P := P) hB hb off (len * z) h1
    refine ⟨len, _, hk, ((ABlk.lt_cells hbl hb).drop _).take _, by simp; omega, .inr ⟨ad, cp, vs, hv, e1, ?_, e3, e4⟩⟩
    intro j v hj
    by_cases hl : 0 < len
    · rw [had hl]; exact e2 j v hj
    · have : vs = [] := List.eq_nil_of_length_eq_zero (by rw [e1]; have : len = 0 := by omega
                                                          simp [this])
      subst this; simp at hj
  · rename_i id len
    split at h <;> try exact h.elim
    rename_i e' z' cs hlk
    obtain ⟨h1, hk⟩ := h
    have hB := F.hp.blk _ _ hlk
    have hbl := (F.wf.hp _ _ hlk).2
    have hd0 : R.δ id = 0 := by obtain ⟨_, _, hd0, _⟩ := hB; exact hd0
    obtain ⟨vs, e1, _, e2, e3, e4⟩ := run_cells (P := P) hB (b := .row e' z' cs) rfl 0 (len * z) (by omega)
    refine ⟨len, _, hk, LL.take hbl _, by simp; omega, .inr ⟨⟨R.ρ id, 0, none⟩, R.κ id, vs, hc.1, e1, ?_, by simpa using e3, e4⟩⟩
    intro j v hj
    have := e2 j v hj
    rwa [show R.adr id 0 = ⟨R.ρ id, 0, none⟩ by simp [Ren.adr, hd0]] at this
  · exact ⟨0, [], h, fun x hx => (List.not_mem_nil hx).elim, by simp, .inl ⟨hc, rfl⟩⟩
  · rename_i id off len
    obtain ⟨b, cs, ⟨h1, hk⟩, hid, hb, hB, hbl⟩ := onCells_sound F h
    rcases hc with ⟨ad, cp, hv, had, _⟩ | ⟨h0, hv⟩
    · obtain ⟨vs, e1, _, e2, e3, e4⟩ := run_cells (P := P) hB hb off (len * z) h1
      refine ⟨len, _, hk, ((ABlk.lt_cells hbl hb).drop _).take _, by simp; omega, .inr ⟨ad, cp, vs, hv, e1, ?_, e3, e4⟩⟩
      intro j v hj
      by_cases hl : 0 < len
      · rw [had hl]; exact e2 j v hj
      · have : vs = [] := List.eq_nil_of_length_eq_zero (by rw [e1]; have : len = 0 := by omega
                                                            simp [this])
        subst this; simp at hj
    · subst h0
      exact ⟨0, _, hk, ((ABlk.lt_cells hbl hb).drop _).take _, by simp, .inl ⟨hv, rfl⟩⟩

/-- What a row's value owns, put among what is known. -/
theorem Fit.newRow {w' : World} {hp0 : List (Nat × ABlk)} {e z n : Nat} {v : Value} {xs : List Value} {cs : List AC} (F : Fit E R { s with hp := hp0 } a w') (hG : s.nx < GB) (hown : w'.ownsRow 0 e z v n xs) (hv : v ≠ .slice none 0 0)
    (hc : conL R cs xs.toArray 0) (hlen : cs.length = n * z) (hl : LL s.nx cs) (hbk : ∀ g, v.ownBlock = some g → (∀ j c, lk hp0 j = some c → g ≠ R.ρ j) ∧ (E.M g ∨ E.W.heap.size ≤ g)) :
    ∃ R', Fit E R' { s with hp := (s.nx, .row e z cs) :: hp0, nx := s.nx + 1 } a w' ∧ conC R' (.row s.nx n) v := by
  obtain ⟨hx, hcase⟩ := hown
  rcases hcase with ⟨h0, _⟩ | ⟨g, cap, cur, hve, _, hg, hnc, hcm, hcs, htk⟩
  · exact absurd h0 hv
  subst hve
  obtain ⟨hb1, hb2⟩ := hbk g rfl
  have hag := Ren.set_agree R s.nx g 0 cap hG
  have hf : lk hp0 s.nx = none := by
    cases hq : lk hp0 s.nx with
    | none => rfl
    | some b => have := F.nx _ _ hq; simp only at this; omega
  refine ⟨R.set s.nx g 0 cap, ?_, ?_⟩
  · refine (F.ren (m := s.nx + 1) hag (Ren.set_ok _ _ _ _ hG F.ok) (Nat.le_succ _) hG).add hf ?_ ?_ ?_ (.inl (Nat.lt_succ_self _)) (LL.mono hl (Nat.le_succ _))
    · refine ⟨cur, by rw [Ren.set_ρ]; exact hg, by simp, by rw [Ren.set_κ]; exact hcm, by rw [Ren.set_κ]; exact hcs, ?_, ?_⟩
      · rw [hlen, hcs]; exact Nat.mul_le_mul_right _ hnc
      · refine (conL.agree hag hl ?_)
        intro j x hj
        obtain ⟨u, hu, hcu⟩ := hc j x hj
        refine ⟨u, ?_, hcu⟩
        rw [Nat.zero_add] at hu ⊢
        rw [← htk] at hu
        simp only [List.getElem?_toArray, List.getElem?_take] at hu
        split at hu
        · simpa using hu
        · cases hu
    · intro _; rw [Ren.set_ρ]; exact hb2
    · intro j c hj _
      rw [Ren.set_ρ, (hag j (F.wf.hp j c hj).1).1]
      exact hb1 j c hj
  · exact ⟨by simp [Ren.set], by simpa [Ren.set] using hnc⟩

theorem conL.append {R : Ren} {cs ds : List AC} {vs us : List Value} (h : conL R cs vs.toArray 0) (k : conL R ds us.toArray 0) (hl : cs.length = vs.length) : conL R (cs ++ ds) (vs ++ us).toArray 0 := by
  intro j x hj
  rw [Nat.zero_add]
  simp only [List.getElem?_toArray, List.getElem?_append] at hj ⊢
  rw [← hl]
  split at hj
  · obtain ⟨v, hv, hc⟩ := h j x hj
    rename_i hlt
    refine ⟨v, ?_, hc⟩
    rw [if_pos hlt]
    rw [Nat.zero_add] at hv; simpa using hv
  · rename_i hlt
    obtain ⟨v, hv, hc⟩ := k _ x hj
    refine ⟨v, ?_, hc⟩
    rw [if_neg hlt]
    rw [Nat.zero_add] at hv; simpa using hv

theorem mulcast {n b : Nat} (h : (n : Int) * (b : Int) ≤ 140737488355328) : n * b ≤ 140737488355328 := by
  have : ((n * b : Nat) : Int) ≤ 140737488355328 := by rw [Int.natCast_mul]; exact h
  omega
theorem maxcast {n : Nat} (h : n ≤ 9223372036854775807) : n ≤ maxLen := h

theorem drew_alloc_grown (w : World) (o : Obj) : w.grownBy (w.drew.alloc o) none := ⟨rfl, rfl, rfl, by simp, fun k hk _ => Below.heap_alloc w.drew o k hk⟩

theorem s_append (hT : TOk P T) {x y : Operand} {t t' : TypeId} {c : Call} (hcal : c.callee = .builtin .append) (har : c.args.toList = [x, y]) (hat : c.argTypes.toList = [t, t']) (ho : o.op = .call c) (F : Fit E R s a w)
    (h : stepA T md s (.call c) k) : Out P E a w o k := by
  simp only [stepA, AS.on_eq, hcal, har, hat] at h
  obtain ⟨rfl, h⟩ := h
  obtain ⟨p, hA, hc, hp0⟩ := onC_sound F h
  clear h
  obtain ⟨q, hk, hd, hq0⟩ := onC_sound F hA
  clear hA
  split at hk <;> try exact hk.elim
  rename_i e sz b z cc hq
  have hu : P.underlying t = some (.slice e) := (hT _ _ hq).d
  split at hk <;> try exact hk.elim
  rename_i i hi
  obtain ⟨⟨hsz, hzl⟩, hk⟩ := hk
  obtain ⟨inf, z0, hinf, e1, e2, hz0, hzs, hzc, _, _⟩ := (hT _ _ hi).inf
  obtain ⟨m, nw, hk2, hnl, hnlen, hcase⟩ := newsOf_sound P F hd hk
  clear hk
  have hk := hk2
  clear hk2
  have har' : c.args = #[x, y] := by rw [← har, Array.toArray_toList]
  have hat' : c.argTypes = #[t, t] := by rw [← hat, Array.toArray_toList]
  have hrun : ∀ (v : Value) (w' : World), (Builtin.append_ #[t, t] o.type #[a.eval x, a.eval y]).run P w = .ok v w' → (execOp a.eval o).run P w = .ok (.value v) w' := by
    intro v w' hr
    simp [execOp, ho, resolve, hcal, har', hat', invoke, builtin, hr]
  have hzs' : z0.cells.size = i.size := by omega
  -- a row that is the activation's own, or none
  have own : ∀ (n : Nat) (v : Value) (xs : List Value) (hp0 : List (Nat × ABlk)) (cs : List AC), a.eval x = v → w.ownsRow 0 e i.size v n xs → s.nx < GB → ((n + m : Nat) : Int) * i.bytes ≤ 140737488355328 → n + m ≤ 9223372036854775807 →
      (v = .slice none 0 0 → 0 < m) → (∀ w', w.grownBy w' v.ownBlock → Fit E R { s with hp := hp0 } a w') → conL R cs xs.toArray 0 → cs.length = n * i.size → LL s.nx cs →
      (∀ g, v.ownBlock = some g → (∀ j c, lk hp0 j = some c → g ≠ R.ρ j) ∧ (E.M g ∨ E.W.heap.size ≤ g)) → (∀ j c, lk hp0 j = some c → R.ρ j < w.heap.size) →
      k (.c (.row s.nx (n + m))) { s with hp := (s.nx, .row e i.size (cs ++ nw)) :: hp0, nx := s.nx + 1 } → Out P E a w o k := by
    intro n v xs hp0 cs hv hown hG hby hmx hnn hF hcx hcl hll hbk hlt hkk
    have hmx' : n + m ≤ maxLen := hmx
    have hby' : (n + m) * i.bytes ≤ 140737488355328 := mulcast hby
    have fin : ∀ (v' : Value) (w' : World) (news : List Value), (Builtin.append_ #[t, t] o.type #[v, a.eval y]).run P w = .ok v' w' → w'.ownsRow 0 e i.size v' (n + m) (xs ++ news) → w.grownBy w' v.ownBlock →
        v' ≠ .slice none 0 0 → (v'.ownBlock = v.ownBlock ∨ v'.ownBlock = some w.heap.size) → conL R nw news.toArray 0 → Out P E a w o k := by
      intro v' w' news hr ho' hg' hne hob hcn
      have hxl : xs.length = n * i.size := hown.1
      obtain ⟨R', F', hv'⟩ := (hF w' hg').newRow hG ho' hne (hcx.append hcn (by omega)) (by simp [hcl, hnlen, Nat.add_mul]) (hll.app hnl) (by
        intro g hgg
        rcases hob with h1 | h1
        · exact hbk g (by rw [← h1]; exact hgg)
        · rw [h1] at hgg; injection hgg with hgg; subst hgg
          exact ⟨fun j c hj e => absurd (hlt j c hj) (by omega), .inr F.fr.size⟩)
      exact ⟨_, w', v', R', _, _, hrun v' w' (by rw [hv]; exact hr), .inl rfl, hkk, F', hv', .inl (Nat.lt_succ_self _)⟩
    rcases hcase with ⟨hn, hm0⟩ | ⟨ad, cp, news, hy, hnl1, hnl2, hnl3, hnl4⟩
    · subst hm0
      have hr := run_append_owned_none (P := P) (w := w) 0 t o.type e inf i.size hu hinf v n xs hown
      refine fin v w [] (by rw [hn]; exact hr) (by simpa using hown) (World.grownBy.refl w _) (fun e => absurd (hnn e) (by omega)) (.inl rfl) ?_
      rw [show nw = [] from List.eq_nil_of_length_eq_zero (by simpa using hnlen)]
      intro j x hj; simp at hj
    · obtain ⟨v', w', hr, h2, h3, h4, h5⟩ := run_append_own_at (P := P) w 0 t o.type e inf z0 i.size i.bytes hu hinf hz0 e1 e2 hzs' hsz v n xs hown ad m cp news hnl1 hnl2 hnl4 hmx' hby' (Nat.zero_le _)
      refine fin v' w' news (by rw [hy]; exact hr) h2 h3 ?_ h5 hnl3
      intro e
      obtain ⟨e1, e2⟩ := h4.1 e
      exact absurd (hnn e1) (by omega)
  split at hk <;> try exact hk.elim
  · -- nil
    obtain ⟨⟨hG, h1, h2⟩, hk0, hk1⟩ := hk
    simp only [conC] at hc
    by_cases hm : m = 0
    · rcases hcase with ⟨hn, _⟩ | ⟨ad, cp, news, hy, hnl1, hnl2, hnl3, hnl4⟩
      · have hr := run_append_owned_none (P := P) (w := w) 0 t o.type e inf i.size hu hinf (.slice none 0 0) 0 [] (w.ownsRow_nil 0 e i.size)
        exact Out.mk (hrun _ _ (by rw [hc, hn]; exact hr)) (hk0 hm) F rfl trivial
      · obtain ⟨v', w', hr, _, h3, h4, _⟩ := run_append_own_at (P := P) w 0 t o.type e inf z0 i.size i.bytes hu hinf hz0 e1 e2 hzs' hsz (.slice none 0 0) 0 [] (w.ownsRow_nil 0 e i.size) ad m cp news hnl1 hnl2 hnl4
          (by rw [Nat.zero_add]; exact maxcast h2) (by rw [Nat.zero_add]; exact mulcast h1) (Nat.zero_le _)
        obtain rfl := h4.2 ⟨rfl, hm⟩
        exact ⟨_, w', _, R, s, _, hrun _ _ (by rw [hc, hy]; exact hr), .inl rfl, hk0 hm, F.keep0 h3, rfl, trivial⟩
    · refine own 0 (.slice none 0 0) [] s.hp [] hc (w.ownsRow_nil 0 e i.size) hG (by rw [Nat.zero_add]; exact h1) (by omega) (fun _ => by omega) (fun w' hg => F.keep0 hg) (by intro j x hj; simp at hj) (by simp) (fun x hx => (List.not_mem_nil hx).elim)
        (by intro g hg; simp [Value.ownBlock] at hg) (fun j c hj => (F.hp.blk j c hj).lt) ?_
      rw [Nat.zero_add]
      simpa using hk1 (by omega)
  · -- a row
    rename_i id len
    split at hk <;> try exact hk.elim
    rename_i e' z' cs hlk
    obtain ⟨⟨hG, rfl, rfl, hlen, h1, h2⟩, hk⟩ := hk
    obtain ⟨hv, hle⟩ := hc
    have hB := F.hp.blk _ _ hlk
    obtain ⟨cc, hh, hd0, hcm, hcs, hcl, hcc⟩ := (show BRel R id w (.row e' i.size cs) from hB)
    refine own len _ (cc.toList.take (len * i.size)) (del s.hp id) cs hv ⟨by simp; omega, .inr ⟨R.ρ id, R.κ id, cc, rfl, Nat.zero_le _, hh, hle, hcm, hcs, rfl⟩⟩ hG h1 h2 (by simp) ?_ ?_ hlen (F.wf.hp _ _ hlk).2 ?_ ?_ hk
    · intro w' hg
      exact F.keep hlk rfl (by simpa [Value.ownBlock] using hg) (cells_notdf hB (b := .row e' i.size cs) rfl)
    · intro j y hj
      obtain ⟨u, hu', hcu⟩ := hcc j y hj
      refine ⟨u, ?_, hcu⟩
      have := (List.getElem?_eq_some_iff.1 hj).1
      rw [Nat.zero_add] at hu' ⊢
      simp only [List.getElem?_toArray, List.getElem?_take]
      rw [if_pos (by omega)]; simpa using hu'
    · intro g hg
      simp only [Value.ownBlock, Option.some.injEq] at hg
      subst hg
      refine ⟨?_, F.wr id _ hlk rfl⟩
      intro j c hj
      simp only [lk_del] at hj
      split at hj
      · cases hj
      · rename_i hne; exact F.hp.inj id j _ c hlk hj hne rfl
    · intro j c hj
      simp only [lk_del] at hj
      split at hj
      · cases hj
      · exact (F.hp.blk j c hj).lt
  · -- a slice that is full
    rename_i id off len c0
    obtain ⟨b', cs, ⟨⟨hG, h0, h1, h2, h3⟩, hk3⟩, hid, hb, hB, hbl⟩ := onCells_sound F hk
    obtain ⟨ad0, cp0, hv, hcap, had0, hle⟩ := hc
    obtain rfl := hcap c0 rfl
    obtain ⟨vs, f1, _, f2, f3, f4⟩ := run_cells (P := P) hB hb off (len * i.size) h1
    rcases hcase with ⟨_, hm0⟩ | ⟨ad, cp, news, hy, hnl1, hnl2, hnl3, hnl4⟩
    · omega
    have h2' : (len + m) * i.bytes ≤ 140737488355328 := mulcast h2
    have hr := run_append_grow (P := P) w t o.type e inf z0 hu hinf hz0 ad0 len cp0 vs (by rw [f1, e1]) (by
      intro j v hj
      by_cases hl : 0 < len
      · rw [had0 hl]; exact f2 j v hj
      · have : vs = [] := List.eq_nil_of_length_eq_zero (by rw [f1]; have : len = 0 := by omega
                                                            simp [this])
        subst this; simp at hj) ad m cp news (by rw [hnl1, e1]) hnl2 h0 (by omega) (by rw [e2]; exact growslice_fits h0 h2')
    have hgc := grownCap_ge w (len + m) cp0 e
    have hgm := grownCap_le_maxLen w (len + m) cp0 e (show len + m ≤ maxLen from h3)
    have hcl := (ABlk.lt_cells hbl hb)
    obtain ⟨R', F', hv'⟩ := (F.keep0 (drew_alloc_grown w (.cells (vs.toArray ++ news.toArray ++ Builtin.zeroCells z0.cells (grownCap w (len + m) cp0 e - (len + m))) e))).newRow (hp0 := s.hp) (n := len + m) (e := e) (z := i.size) (xs := vs ++ news)
      (v := .slice (some ⟨w.heap.size, 0, none⟩) (len + m) (grownCap w (len + m) cp0 e)) (cs := (cs.drop off).take (len * i.size) ++ nw) hG
      ⟨by simp [f1, hnl1, Nat.add_mul], .inr ⟨w.heap.size, _, _, rfl, Nat.zero_le _, World.alloc_heap_new w.drew _, hgc, hgm, by
        simp only [Array.size_append, List.size_toArray, f1, hnl1, size_zeroCells, hzs']
        rw [← Nat.add_mul, ← Nat.add_mul]; congr 1; omega, by
        simp only [Array.toList_append, List.append_assoc]
        rw [← List.append_assoc, List.take_append_of_le_length (by simp [f1, hnl1, Nat.add_mul]), List.take_of_length_le (by simp [f1, hnl1, Nat.add_mul])]⟩⟩ (by simp)
      (f3.append hnl3 (by simp [f1]; omega)) (by simp [hnlen, Nat.add_mul]; omega) (((hcl.drop _).take _).app hnl) (by
        intro g hg
        simp only [Value.ownBlock, Option.some.injEq] at hg
        subst hg
        exact ⟨fun j c hj e => absurd (F.hp.blk j c hj).lt (by omega), .inr F.fr.size⟩)
    exact ⟨_, _, _, R', _, _, hrun _ _ (by rw [hv, hy]; exact hr), .inl rfl, hk3, F', hv', .inl (Nat.lt_succ_self _)⟩

theorem prim_lt {x : AC} {n : Nat} (h : x.prim = true) : x.lt n := by cases x <;> first | trivial | cases h

theorem lookup_out (hT : TOk P T) {t id ke el : Nat} {x y : Operand} {ok : Bool} {m : List (List AC × AC)} {ks zs : List AC} {dk ed : TD} {zk zb es eb : Nat} {z0 : AC} {ec : Bool} (ho : o.op = .lookup t x y ok) (F : Fit E R s a w) (hu : P.underlying t = some (.map ke el))
    (hc : conC R (.map id) (a.eval x)) (hd : conV R (.g ks) (a.eval y)) (hm : BRel R id w (.mp m)) (hml : ABlk.lt s.nx (.mp m)) (hke : T ke = some ⟨dk, zk, zb, zs, true⟩) (hel : T el = some ⟨ed, es, eb, [z0], ec⟩) (hag : TI.agg ⟨ed, 1, 0, [], false⟩ = false) (hmk : mOk m ks zs)
    (hk : match (generalizing := false) ok with
      | true => k (.t [.c ((mget m ks).getD z0), .c (.bool (mget m ks).isSome)]) s
      | false => k (.c ((mget m ks).getD z0)) s) : Out P E a w o k := by
  obtain ⟨hko, hmo⟩ := hmk
  have hE := hT _ _ hel
  have eL := (hT _ _ hke).eq rfl
  obtain ⟨ents, clock, hh, hsz, hent⟩ := hm
  simp only [conC] at hc
  have hgo := MapKept.run_getObj_map (P := P) hh
  obtain ⟨vs, hv, hvs, hvc⟩ := hd
  have hag' : TI.agg ⟨ed, es, eb, [z0], ec⟩ = false := hag
  obtain ⟨zv, hz, hzs, hzc, _⟩ := hE.zeroR w
  have hz0 : conC R z0 zv := by
    have hzz : zv.cells = #[zv] := by
      have har := hE.inf
      obtain ⟨ix, z', i1, i2, i3, i4, i5, i6, i7, i8⟩ := har
      have : zv = z' := by
        have hz' : (zeroValue el).run P w = .ok z' w := by simp [zeroValue, typeInfo, i1, i4]
        rw [hz] at hz'; injection hz'
      subst this
      obtain ⟨u, hu1, hu2⟩ := i6 R 0 z0 rfl
      exact hE.one hag' _ _ i1 i4
    obtain ⟨u, hu1, hu2⟩ := hzc R 0 z0 rfl
    rw [hzz] at hu1
    simp at hu1; subst hu1; exact hu2
  obtain ⟨lx, hlx⟩ := eL.lits ks vs R hko hvs hvc
  have hck := fun em => eL.key.check w em hlx
  rcases findAsking_sound (P := P) (w := w) eL (R := R) hko hvs hvc m ents.toList 0 (by simpa using hsz) (fun i p e hi he => by
      obtain ⟨k', v'⟩ := p
      obtain ⟨e', g1, g2⟩ := hent i k' v' hi
      have : e' = e := by have he' : ents[i]? = some e := by simpa using he
                          rw [g1] at he'; injection he'
      exact this ▸ g2) hmo with ⟨a1, a2, a3⟩ | ⟨j, e, v, a1, a2, a3, a4, a5, a6⟩
  · have hr : (Instr.findKey ke (.agg vs) ents.toList).run P w = .ok none w := by rw [run_findKey_eq w eL.wide, a2]
    rw [a1] at hk
    cases ok with
    | true =>
      refine Out.mk (u := .tuple #[zv, .bool false]) ?_ hk F ⟨_, rfl, rfl, ?_⟩ ?_
      · simp [execOp, ho, hc, hv, Instr.lookup, run_underlying hu, hgo, hck, hr, hz]
      · intro i e hi
        match i, hi with
        | 0, hi => simp at hi; subst hi; exact ⟨zv, rfl, hz0⟩
        | 1, hi => simp at hi; subst hi; exact ⟨_, rfl, rfl⟩
        | (i + 2), hi => simp at hi
      · intro e he
        simp at he
        rcases he with rfl | rfl
        · exact (hE.zlt s.nx) z0 (by simp)
        · trivial
    | false =>
      refine Out.mk (u := zv) ?_ hk F hz0 ((hE.zlt s.nx) z0 (by simp))
      simp [execOp, ho, hc, hv, Instr.lookup, run_underlying hu, hgo, hck, hr, hz]
  · have hr : (Instr.findKey ke (.agg vs) ents.toList).run P w = .ok (some (j, e.val)) w := by rw [run_findKey_eq w eL.wide, a1, Nat.zero_add]
    rw [a4] at hk
    have hlv : v.lt s.nx := by
      have := hml
      have hm' : ∀ (m : List (List AC × AC)), mget m ks = some v → ∃ p ∈ m, p.2 = v := by
        intro m
        induction m with
        | nil => intro h; cases h
        | cons p m ih =>
          obtain ⟨k1, v1⟩ := p
          intro h
          simp only [mget] at h
          split at h
          · injection h with h; exact ⟨(k1, v1), by simp, h⟩
          · obtain ⟨p, hp, e⟩ := ih h; exact ⟨p, by simp [hp], e⟩
      obtain ⟨p, hp, e⟩ := hm' m a4
      exact e ▸ (this p hp).2
    cases ok with
    | true =>
      refine Out.mk (u := .tuple #[e.val, .bool true]) ?_ hk F ⟨_, rfl, rfl, ?_⟩ ?_
      · simp [execOp, ho, hc, hv, Instr.lookup, run_underlying hu, hgo, hck, hr]
      · intro i e' hi
        match i, hi with
        | 0, hi => simp at hi; subst hi; exact ⟨e.val, rfl, a5⟩
        | 1, hi => simp at hi; subst hi; exact ⟨_, rfl, rfl⟩
        | (i + 2), hi => simp at hi
      · intro e' he
        simp at he
        rcases he with rfl | rfl
        · exact hlv
        · trivial
    | false =>
      refine Out.mk (u := e.val) ?_ hk F a5 hlv
      simp [execOp, ho, hc, hv, Instr.lookup, run_underlying hu, hgo, hck, hr]
theorem s_lookup (hT : TOk P T) {t : Nat} {x y : Operand} {ok : Bool} (ho : o.op = .lookup t x y ok) (F : Fit E R s a w) (h : stepA T md s (.lookup t x y ok) k) : Out P E a w o k := by
  simp only [stepA, AS.on_eq] at h
  obtain ⟨p, hA, hc, hp0⟩ := onC_sound F h
  clear h
  obtain ⟨q, hk, hd, hq0⟩ := onV_sound F hA
  clear hA
  split at hk <;> try exact hk.elim
  rename_i id ks ke el z1 b1 z2 c1 hq
  have hu : P.underlying t = some (.map ke el) := (hT _ _ hq).d
  split at hk <;> try exact hk.elim
  rename_i m dk zk zb zs ed es eb z0 ec hm hke hel
  obtain ⟨⟨hag, hmk⟩, hk⟩ := hk
  exact lookup_out hT ho F hu hc hd (F.hp.blk _ _ hm) (F.wf.hp _ _ hm).2 hke hel hag hmk hk

theorem grownBy_setObj (w : World) (g : Nat) (o : Obj) : w.grownBy { w with heap := w.heap.setIfInBounds g o } (some g) :=
  ⟨rfl, rfl, rfl, by simp, fun k _ hk => by
    have : g ≠ k := fun e => hk (by rw [e])
    simp [Array.getElem?_setIfInBounds, this]⟩

theorem mset_lt {n : Nat} {ks : List AC} {u : AC} (hq0 : LL n ks) (hu0 : u.lt n) : ∀ (m : List (List AC × AC)), (∀ p ∈ m, LL n p.1 ∧ p.2.lt n) → ∀ p ∈ mset m ks u, LL n p.1 ∧ p.2.lt n := by
  intro m
  induction m with
  | nil => intro _ p hp; simp [mset] at hp; subst hp; exact ⟨hq0, hu0⟩
  | cons q m ih =>
    obtain ⟨k1, v1⟩ := q
    intro hm p hp
    simp only [mset] at hp
    split at hp
    · rcases List.mem_cons.1 hp with e | e
      · subst e; exact ⟨(hm (k1, v1) (by simp)).1, hu0⟩
      · exact hm p (by simp [e])
    · rcases List.mem_cons.1 hp with e | e
      · subst e; exact hm (k1, v1) (by simp)
      · exact ih (fun p hp => hm p (by simp [hp])) p e
theorem mset_prim {m : List (List AC × AC)} {ks z : List AC} {u : AC} (hk : okL ks z) (hu : u.prim = true) (hm : primM m) : primM (mset m ks u) := by
  have hkp : ∀ x ∈ ks, x.prim = true := by
    obtain ⟨_, hg⟩ := okL_get hk
    intro x hx
    obtain ⟨i, hi⟩ := List.mem_iff_getElem?.1 hx
    obtain ⟨z', _, ok⟩ := hg i x hi
    cases x <;> cases z' <;> first | rfl | exact ok.elim
  induction m with
  | nil => intro p hp; simp [mset] at hp; subst hp; exact ⟨hkp, hu⟩
  | cons q m ih =>
    obtain ⟨k1, v1⟩ := q
    intro p hp
    simp only [mset] at hp
    split at hp
    · rcases List.mem_cons.1 hp with e | e
      · subst e; exact ⟨(hm (k1, v1) (by simp)).1, hu⟩
      · exact hm p (by simp [e])
    · rcases List.mem_cons.1 hp with e | e
      · subst e; exact hm (k1, v1) (by simp)
      · exact ih (fun p hp => hm p (by simp [hp])) p e

theorem update_run (hT : TOk P T) {t id ke el : Nat} {x y v : Operand} {m : List (List AC × AC)} {ks zs : List AC} {dk : TD} {zk zb : Nat} {u : AC} (ho : o.op = .mapUpdate t x y v) (hu : P.underlying t = some (.map ke el))
    (hc : conC R (.map id) (a.eval x)) (hd : conV R (.g ks) (a.eval y)) (he : conC R u (a.eval v)) (hB : BRel R id w (.mp m)) (hke : T ke = some ⟨dk, zk, zb, zs, true⟩) (hmk : mOk m ks zs) :
    ∃ w', (execOp a.eval o).run P w = .ok .skip w' ∧ w.grownBy w' (some (R.ρ id)) ∧ BRel R id w' (.mp (mset m ks u)) := by
  obtain ⟨hko, hmo⟩ := hmk
  have eL := (hT _ _ hke).eq rfl
  obtain ⟨ents, clock, hh, hsz, hent⟩ := hB
  simp only [conC] at hc
  have hgo := MapKept.run_getObj_map (P := P) hh
  obtain ⟨vs, hv, hvs, hvc⟩ := hd
  obtain ⟨lx, hlx⟩ := eL.lits ks vs R hko hvs hvc
  have hck := fun em => eL.key.check w em hlx
  have hst := eL.key.stays w hlx
  have hlt : R.ρ id < w.heap.size := (Array.getElem?_eq_some_iff.1 hh).1
  have hself : conL R ks vs 0 := hvc
  rcases findAsking_sound (P := P) (w := w) eL (R := R) hko hvs hvc m ents.toList 0 (by simpa using hsz) (fun i p e hi he => by
      obtain ⟨k', v'⟩ := p
      obtain ⟨e', g1, g2⟩ := hent i k' v' hi
      have : e' = e := by have he' : ents[i]? = some e := by simpa using he
                          rw [g1] at he'; injection he'
      exact this ▸ g2) hmo with ⟨a1, a2, a3⟩ | ⟨j, e, v0, a1, a2, a3, a4, a5, a6⟩
  · have hr : (Instr.findKey ke (.agg vs) ents.toList).run P w = .ok none w := by rw [run_findKey_eq w eL.wide, a2]
    refine ⟨_, ?_, grownBy_setObj w (R.ρ id) (.map (ents.push { key := .agg vs, val := a.eval v, born := clock }) (clock + 1)), ?_⟩
    · simp [execOp, ho, hc, hv, Instr.mapUpdate, run_underlying hu, hgo, hck, hr, MapKept.run_setObj_map _ hh]
    · refine ⟨_, _, by simp [hlt]; exact ⟨rfl, rfl⟩, by rw [a3]; simp [hsz], ?_⟩
      intro i k' v' hi
      rw [a3] at hi
      rw [List.getElem?_append] at hi
      split at hi
      · rename_i hlt2
        obtain ⟨e', g1, g2⟩ := hent i k' v' hi
        refine ⟨e', ?_, g2⟩
        rw [Array.getElem?_push]
        rw [if_neg (by omega)]; exact g1
      · rename_i hge
        have hi0 : i - m.length = 0 := by
          by_cases h0 : i - m.length = 0
          · exact h0
          · rw [List.getElem?_eq_none (by simp; omega)] at hi; cases hi
        rw [hi0] at hi; simp at hi
        obtain ⟨rfl, rfl⟩ := hi
        refine ⟨{ key := .agg vs, val := a.eval v, born := clock }, ?_, ⟨vs, rfl, hvs, hvc⟩, he⟩
        rw [Array.getElem?_push, if_pos (by omega)]
  · have hr : (Instr.findKey ke (.agg vs) ents.toList).run P w = .ok (some (j, e.val)) w := by rw [run_findKey_eq w eL.wide, a1, Nat.zero_add]
    have hej : ents[j]? = some e := by simpa using a2
    refine ⟨_, ?_, grownBy_setObj w (R.ρ id) (.map (ents.modify j fun e => { e with key := .agg vs, val := a.eval v }) clock), ?_⟩
    · simp [execOp, ho, hc, hv, Instr.mapUpdate, run_underlying hu, hgo, hck, hr, hej, a3, hst, MapKept.run_setObj_map _ hh]
    · refine ⟨_, _, by simp [hlt]; exact ⟨rfl, rfl⟩, by rw [a6]; simp [hsz], ?_⟩
      intro i k' v' hi
      rw [a6, List.getElem?_set] at hi
      have hjl : j < m.length := by have := (Array.getElem?_eq_some_iff.1 hej).1; omega
      rw [Array.getElem?_modify]
      split at hi
      · rename_i e1; subst e1
        (try rw [if_pos hjl] at hi)
        injection hi with hi; injection hi with h1 h2; subst h1; subst h2
        refine ⟨{ e with key := .agg vs, val := a.eval v }, by simp [hej], ⟨vs, rfl, hvs, hvc⟩, he⟩
      · rename_i hne
        obtain ⟨e', g1, g2⟩ := hent i k' v' hi
        exact ⟨e', by simp [hne, g1], g2⟩

theorem s_mapUpdate (hT : TOk P T) {t : Nat} {x y v : Operand} (ho : o.op = .mapUpdate t x y v) (F : Fit E R s a w) (h : stepA T md s (.mapUpdate t x y v) k) : Out P E a w o k := by
  simp only [stepA, AS.on_eq] at h
  obtain ⟨p, hA, hc, hp0⟩ := onC_sound F h
  clear h
  obtain ⟨q, hB, hd, hq0⟩ := onV_sound F hA
  clear hA
  obtain ⟨u, hk, he, hu0⟩ := onC_sound F hB
  clear hB
  split at hk <;> try exact hk.elim
  rename_i id ks ke el z1 b1 z2 c1 hq
  have hu : P.underlying t = some (.map ke el) := (hT _ _ hq).d
  split at hk <;> try exact hk.elim
  · rename_i m dk zk zb zs hm hke
    obtain ⟨hmk, hk⟩ := hk
    have hB := F.hp.blk _ _ hm
    obtain ⟨w', h1, h2, h3⟩ := update_run (P := P) hT ho hu hc hd he hB hke hmk
    have hndf : ∀ ds, w.heap[R.ρ id]? ≠ some (.deferred ds) := by
      obtain ⟨ents, clock, hh, _⟩ := hB
      intro ds e; rw [hh] at e; cases e
    exact ⟨.skip, w', undef, R, _, _, h1, .inr ⟨rfl, rfl⟩, hk, F.wrote hm rfl h2 hndf h3 rfl (mset_lt hq0 hu0 m (F.wf.hp _ _ hm).2), ⟨#[], rfl, rfl, by simp⟩, by intro e he; cases he⟩
  · rename_i I dk zk zb zs hm hke
    obtain ⟨⟨hup, hmk⟩, hk⟩ := hk
    obtain ⟨m, ⟨hI, hp⟩, hB⟩ := BRel.mi_iff.1 (F.hp.blk _ _ hm)
    obtain ⟨hmk, hI2⟩ := hmk m hI
    obtain ⟨w', h1, h2, h3⟩ := update_run (P := P) hT ho hu hc hd he hB hke hmk
    have hndf : ∀ ds, w.heap[R.ρ id]? ≠ some (.deferred ds) := by
      obtain ⟨ents, clock, hh, _⟩ := hB
      intro ds e; rw [hh] at e; cases e
    have F2 : Fit E R { s with hp := up s.hp id (.mi I) } a w' := F.wrote hm rfl h2 hndf (BRel.mi_iff.2 ⟨_, ⟨hI2, mset_prim hmk.1 hup hp⟩, h3⟩) rfl trivial
    have F3 : Fit E R s a w' := by
      have := F2.hp_congr (hp' := s.hp) (fun i => by
        rw [lk_up]
        split
        · rename_i e; exact e ▸ hm
        · rfl)
      exact this
    exact ⟨.skip, w', undef, R, _, _, h1, .inr ⟨rfl, rfl⟩, hk, F3, ⟨#[], rfl, rfl, by simp⟩, by intro e he; cases he⟩

theorem step_sound (hT : TOk P T) (F : Fit E R s a w) (h : stepA T md s o.op k) : Out P E a w o k := by
  cases ho : o.op <;> rw [ho] at h
  case move x => exact s_move (.inl ho) F h
  case assign x => exact s_move (.inr ho) F h
  case pick => exact s_pick ho F h
  case alloc => exact s_alloc hT ho F h
  case box => exact s_box ho F h
  case build => exact s_build hT ho F h
  case buildSlice => exact s_buildSlice hT ho F h
  case load => exact s_load hT ho F h
  case store => exact s_store hT ho F h
  case nilCheck => exact s_nilCheck ho F h
  case binOp => exact s_binOp hT ho F h
  case unOp => exact s_unOp ho F h
  case convert => exact s_convert hT ho F h
  case makeFunc fn fs cs =>
    cases fn <;> first | exact s_makeFunc ho F h | exact h.elim
  case fieldAddr => exact s_fieldAddr hT ho F h
  case field => exact s_field hT ho F h
  case indexAddr => exact s_indexAddr hT ho F h
  case index => exact s_index hT ho F h
  case extract => exact s_extract ho F h
  case makeMap t r =>
    cases r with
    | none => exact s_makeMap ho F h
    | some x => exact h.elim
  case lookup => exact s_lookup hT ho F h
  case mapUpdate => exact s_mapUpdate hT ho F h
  case slice t x lo hi mx =>
    cases mx with
    | none => exact s_slice hT ho F h
    | some x => exact h.elim
  case call c =>
    obtain ⟨cal, args, ats⟩ := c
    have h' := h
    simp only [stepA, AS.on_eq] at h'
    split at h' <;> try exact h'.elim
    · rename_i x t h2 h3
      obtain rfl : args = #[x] := by rw [← h2, Array.toArray_toList]
      obtain rfl : ats = #[t] := by rw [← h3, Array.toArray_toList]
      exact s_len hT rfl ho F h
    · rename_i x y h2
      obtain rfl : args = #[x, y] := by rw [← h2, Array.toArray_toList]
      exact s_min rfl ho F h
    · rename_i x y h2
      obtain rfl : args = #[x, y] := by rw [← h2, Array.toArray_toList]
      exact s_max rfl ho F h
    · rename_i x y t t' h2 h3
      exact s_append hT rfl h2 h3 ho F h
  all_goals exact h.elim

end Go.AH
