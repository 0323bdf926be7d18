/-
  The table of types, and reading and writing of memory: what the steps of A3 rest on.
-/
import Derived.Test.YtfphkpdobbffeaaDoorAh23
set_option linter.unusedSimpArgs false
set_option linter.unusedVariables false
namespace Go.AH
open Go.RowKit

def TD.fits (P : Program) (t : TypeId) : TD → Prop
  | .int k => P.underlying t = some (.int k)
  | .bool => P.underlying t = some .bool
  | .str => P.underlying t = some .string
  | .ptr => ∃ e, P.underlying t = some (.pointer e)
  | .slice e => P.underlying t = some (.slice e)
  | .arr n e => P.underlying t = some (.array n e)
  | .struct fs => ∃ fields, P.underlying t = some (.struct fields) ∧ fields.toList.map (fun f => (f.offset, f.type)) = fs ∧ ∀ p ∈ fs, (P.info? p.2).isSome = true
  | .map k e => P.underlying t = some (.map k e)
  | .func => ∃ a b c, P.underlying t = some (.func a b c)
  | .other => False

/-- No struct, no array holds a field that is not compared; every part is flat. -/
def flat (T : Nat → Option TI) (i : TI) : Prop :=
  match i.d with
  | .arr _ e => ∃ j, T e = some j ∧ j.size = 1 ∧ (match j.d with | .int _ => True | .bool => True | _ => False)
  | .struct fs => ∀ p ∈ fs, ∃ j, T p.2 = some j ∧ j.size = 1 ∧ (match j.d with | .int _ => True | .bool => True | _ => False)
  | _ => False

structure TIok (P : Program) (t : TypeId) (i : TI) : Prop where
  d : i.d.fits P t
  eq : i.cmp = true → EqLaw P t i.zero
  one : i.agg = false → ∀ x z, P.info? t = some x → x.zero = some z → z.cells = #[z]
  inf : ∃ x z, P.info? t = some x ∧ x.size = i.size ∧ x.bytes = i.bytes ∧ x.zero = some z ∧ z.cells.size = i.zero.length ∧ (∀ R, conL R i.zero z.cells 0) ∧ (i.agg = true → z = .agg z.cells) ∧ (∀ y ∈ i.zero, y.lt 0)

def TOk (P : Program) (T : Nat → Option TI) : Prop := ∀ t i, T t = some i → TIok P t i

variable {P : Program} {T : Nat → Option TI} {w w' : World} {t : TypeId} {i : TI}

theorem TIok.size (h : TIok P t i) (w : World) : (sizeOf t).run P w = .ok i.size w := by
  obtain ⟨x, z, h1, h2, _⟩ := h.inf
  simp [sizeOf, typeInfo, h1, h2]
theorem TIok.aggR (h : TIok P t i) (w : World) : (isAgg t).run P w = .ok i.agg w := by
  have hd := h.d
  unfold TI.agg
  cases hq : i.d <;> rw [hq] at hd <;> simp only [TD.fits] at hd
  case ptr => obtain ⟨e, hd⟩ := hd; simp [isAgg, run_underlying hd]
  case struct => obtain ⟨e, hd, _, _⟩ := hd; simp [isAgg, run_underlying hd]
  case func => obtain ⟨e, _, _, hd⟩ := hd; simp [isAgg, run_underlying hd]
  all_goals simp [isAgg, run_underlying hd]
theorem TIok.zeroR (h : TIok P t i) (w : World) : ∃ z, (zeroValue t).run P w = .ok z w ∧ z.cells.size = i.zero.length ∧ (∀ R, conL R i.zero z.cells 0) ∧ (i.agg = true → z = .agg z.cells) := by
  obtain ⟨x, z, h1, h2, h3, h4, h5, h6, h7, _⟩ := h.inf
  exact ⟨z, by simp [zeroValue, typeInfo, h1, h4], h5, h6, h7⟩
theorem TIok.zlt (h : TIok P t i) (n : Nat) : LL n i.zero := by
  obtain ⟨x, z, h1, h2, h3, h4, h5, h6, h7, h8⟩ := h.inf
  exact fun y hy => (h8 y hy).mono (Nat.zero_le n)

theorem adr_add (R : Ren) (id o n : Nat) : (R.adr id o).add n = R.adr id (o + n) := by
  unfold Addr.add Ren.adr
  split
  · subst_vars; rfl
  · simp [Nat.add_assoc]

/-- The cells of a block that is known. -/
theorem BRel.cell {R : Ren} {id : Nat} {b : ABlk} {cs : List AC} (h : BRel R id w b) (hb : b.cells = some cs) :
    ∃ c t z, w.heap[R.ρ id]? = some (.cells c t z) ∧ conL R cs c (R.δ id) ∧ R.δ id + cs.length ≤ c.size + (if cs.length = 0 then R.δ id else 0) := by
  have key : ∀ (c : Array Value) (d : Nat), conL R cs c d → d + cs.length ≤ c.size + (if cs.length = 0 then d else 0) := by
    intro c d hc
    by_cases h0 : cs.length = 0
    · simp [h0]
    · obtain ⟨v, hv, _⟩ := hc (cs.length - 1) _ (List.getElem?_eq_getElem (by omega))
      have := (Array.getElem?_eq_some_iff.1 hv).1
      rw [if_neg h0]; omega
  cases b with
  | ro cs' => simp only [ABlk.cells, Option.some.injEq] at hb; subst hb; obtain ⟨c, t, z, h1, h2⟩ := h; exact ⟨c, t, z, h1, h2, key c _ h2⟩
  | own cs' => simp only [ABlk.cells, Option.some.injEq] at hb; subst hb; obtain ⟨c, t, h1, h2, h3, h4⟩ := h; rw [h2]; exact ⟨c, t, _, h1, h4, key c _ h4⟩
  | row e z cs' => simp only [ABlk.cells, Option.some.injEq] at hb; subst hb; obtain ⟨c, h1, h2, h3, h4, h5, h6⟩ := h; rw [h2]; exact ⟨c, e, _, h1, h6, key c _ h6⟩
  | mp m => cases hb
  | mi I => cases hb

/-- n cells are read. -/
theorem run_cells {R : Ren} {id : Nat} {b : ABlk} {cs : List AC} (h : BRel R id w b) (hb : b.cells = some cs) (o n : Nat) (hn : o + n ≤ cs.length) :
    ∃ vs : List Value, vs.length = n ∧ (loadCells (R.adr id o) n).run P w = .ok vs.toArray w ∧ (∀ j u, vs[j]? = some u → w.cell? ((R.adr id o).add j) = some u) ∧
      conL R ((cs.drop o).take n) vs.toArray 0 ∧ ∀ u ∈ vs, u.oneCell' = true := by
  obtain ⟨c, t, z, hh, hc, hsz⟩ := h.cell hb
  by_cases h0 : n = 0
  · subst h0
    exact ⟨[], rfl, by simp [loadCells, loadCellsFrom], by simp, by simp [conL], by simp⟩
  have hpos : ¬ cs.length = 0 := by omega
  rw [if_neg hpos] at hsz
  refine ⟨((c.toList.drop (R.δ id + o)).take n), by simp; omega, ?_, ?_, ?_, ?_⟩
  · have := run_loadCells_list (P := P) w (R.adr id o) ((c.toList.drop (R.δ id + o)).take n) ?_
    · rwa [show ((c.toList.drop (R.δ id + o)).take n).length = n by simp; omega] at this
    · intro j v hj
      rw [adr_add]
      simp only [List.getElem?_take, List.getElem?_drop] at hj
      split at hj
      · simp only [World.cell?, Ren.adr, hh]
        simpa [Nat.add_assoc] using hj
      · cases hj
  · intro j v hj
    rw [adr_add]
    simp only [List.getElem?_take, List.getElem?_drop] at hj
    split at hj
    · simp only [World.cell?, Ren.adr, hh]
      simpa [Nat.add_assoc] using hj
    · cases hj
  · intro j x hj
    simp only [List.getElem?_take, List.getElem?_drop] at hj
    split at hj
    · rename_i hjn
      obtain ⟨v, hv, hcv⟩ := hc (o + j) x hj
      refine ⟨v, ?_, hcv⟩
      simp only [Nat.zero_add, List.getElem?_toArray, List.getElem?_take, List.getElem?_drop, hjn, if_true]
      rw [← Array.getElem?_toList] at hv
      rwa [Nat.add_assoc]
    · cases hj
  · intro u hu
    obtain ⟨j, hj⟩ := List.mem_iff_getElem?.1 hu
    simp only [List.getElem?_take, List.getElem?_drop] at hj
    split at hj
    · rename_i hjn
      obtain ⟨v, hv, hcv⟩ := hc (o + j) cs[o + j] (List.getElem?_eq_getElem (by omega))
      rw [← Array.getElem?_toList, ← Nat.add_assoc, hj] at hv
      injection hv with hv
      exact hv ▸ hcv.one
    · cases hj

/-- One cell is read. -/
theorem run_cell {R : Ren} {id : Nat} {b : ABlk} {cs : List AC} (h : BRel R id w b) (hb : b.cells = some cs) (o : Nat) (hn : o + 1 ≤ cs.length) (z : AC) :
    ∃ v, w.cell? (R.adr id o) = some v ∧ conC R (cs.getD o z) v := by
  obtain ⟨c, t, z', hh, hc, _⟩ := h.cell hb
  obtain ⟨v, hv, hcv⟩ := hc o cs[o] (List.getElem?_eq_getElem (by omega))
  refine ⟨v, ?_, ?_⟩
  · simp [World.cell?, Ren.adr, hh, hv]
  · simpa [List.getD, List.getElem?_eq_getElem (show o < cs.length by omega)] using hcv

theorem rdn_eq (cs : List AC) : ∀ (zs : List AC) (o : Nat), o + zs.length ≤ cs.length → rdn cs o zs = (cs.drop o).take zs.length
  | [], o, _ => by simp [rdn]
  | z :: r, o, h => by
    simp only [List.length_cons] at h
    have ih := rdn_eq cs r (o + 1) (by omega)
    have hlt : o < cs.length := by omega
    rw [rdn, ih, List.drop_eq_getElem_cons hlt, List.length_cons, List.take_succ_cons]
    simp [List.getD, List.getElem?_eq_getElem hlt]

theorem wrn_eq : ∀ (vs cs : List AC) (o : Nat), o + vs.length ≤ cs.length → wrn cs o vs = cs.take o ++ vs ++ cs.drop (o + vs.length)
  | [], cs, o, _ => by simp [wrn]
  | v :: r, cs, o, h => by
    simp only [List.length_cons] at h
    have hlt : o < cs.length := by omega
    rw [wrn, wrn_eq r (cs.set o v) (o + 1) (by simp; omega)]
    have h1 : (cs.set o v).take (o + 1) = cs.take o ++ [v] := by
      rw [List.take_set, List.take_succ_eq_append_getElem hlt, List.set_append_right _ _ (by simp; omega)]
      simp [Nat.min_eq_left (Nat.le_of_lt hlt)]
    have h2 : (cs.set o v).drop (o + 1 + r.length) = cs.drop (o + (r.length + 1)) := by
      rw [List.drop_set_of_lt (by omega)]; congr 1; omega
    rw [h1, h2]; simp
theorem set_eq (v : AC) (cs : List AC) (o : Nat) (h : o + 1 ≤ cs.length) : cs.set o v = cs.take o ++ [v] ++ cs.drop (o + 1) := by
  have := wrn_eq [v] cs o (by simpa using h)
  simpa [wrn] using this

theorem LL.drop {n : Nat} {cs : List AC} (h : LL n cs) (o : Nat) : LL n (cs.drop o) := fun x hx => h x (List.mem_of_mem_drop hx)
theorem LL.take {n : Nat} {cs : List AC} (h : LL n cs) (o : Nat) : LL n (cs.take o) := fun x hx => h x (List.mem_of_mem_take hx)
theorem LL.app {n : Nat} {cs ds : List AC} (h : LL n cs) (k : LL n ds) : LL n (cs ++ ds) := fun x hx => by
  rcases List.mem_append.1 hx with h1 | h1
  · exact h x h1
  · exact k x h1
theorem LL.getD {n : Nat} {cs : List AC} (h : LL n cs) (o : Nat) (z : AC) (ho : o + 1 ≤ cs.length) : (cs.getD o z).lt n := by
  rw [show cs.getD o z = cs[o] by simp [List.getD, List.getElem?_eq_getElem (show o < cs.length by omega)]]
  exact h _ (List.getElem_mem _)
theorem LL.one {n : Nat} {x : AC} (h : x.lt n) : LL n [x] := fun y hy => by simp at hy; exact hy ▸ h

theorem ABlk.lt_cells {n : Nat} {b : ABlk} {cs : List AC} (h : b.lt n) (hb : b.cells = some cs) : LL n cs := by
  cases b <;> simp only [ABlk.cells, Option.some.injEq] at hb
  · exact hb ▸ h
  · exact hb ▸ h
  · exact hb ▸ h
  · cases hb
  · cases hb
theorem ABlk.with_lt {n : Nat} {b : ABlk} {cs ds : List AC} (hb : b.cells = some cs) (h : LL n ds) : (b.with ds).lt n := by
  cases b <;> simp only [ABlk.cells] at hb <;> first | exact h | cases hb
theorem ABlk.with_wr {b : ABlk} (ds : List AC) : (b.with ds).wr = b.wr := by cases b <;> rfl

/-- A block's known cells, some of them written anew. -/
theorem BRel.splice {R : Ren} {id : Nat} {b : ABlk} {cs : List AC} (h : BRel R id w b) (hb : b.cells = some cs) (hw : b.wr = true) (o : Nat) (gs : List AC) (vs : List Value)
    (hl : vs.length = gs.length) (hc : conL R gs vs.toArray 0) (hn : o + gs.length ≤ cs.length) :
    ∃ c t, w.heap[R.ρ id]? = some (.cells c t (0, 0)) ∧ o + vs.length ≤ c.size ∧ R.δ id = 0 ∧
      BRel R id (w.setRow (R.ρ id) (c.toList.take o ++ vs ++ c.toList.drop (o + vs.length)).toArray) (b.with (cs.take o ++ gs ++ cs.drop (o + gs.length))) := by
  have key : ∀ c : Array Value, cs.length ≤ c.size → conL R cs c 0 → conL R (cs.take o ++ gs ++ cs.drop (o + gs.length)) (c.toList.take o ++ vs ++ c.toList.drop (o + vs.length)).toArray 0 := by
    intro c hsz hcc j x hj
    simp only [Nat.zero_add, List.getElem?_toArray]
    rw [List.append_assoc, List.getElem?_append] at hj ⊢
    simp only [List.length_take, List.getElem?_append, List.getElem?_drop, hl, Array.length_toList] at hj ⊢
    have e1 : min o cs.length = o := by omega
    have e2 : min o c.size = o := by omega
    rw [e1] at hj; rw [e2]
    by_cases h1 : j < o
    · simp only [h1, if_true, List.getElem?_take] at hj ⊢
      obtain ⟨v, hv, hcv⟩ := hcc j x hj
      exact ⟨v, by rw [Nat.zero_add] at hv; simpa using hv, hcv⟩
    · simp only [h1, if_false] at hj ⊢
      by_cases h2 : j - o < gs.length
      · simp only [h2, if_true] at hj ⊢
        obtain ⟨v, hv, hcv⟩ := hc (j - o) x hj
        exact ⟨v, by simpa using hv, hcv⟩
      · simp only [h2, if_false] at hj ⊢
        obtain ⟨v, hv, hcv⟩ := hcc _ x hj
        exact ⟨v, by rw [Nat.zero_add] at hv; simpa using hv, hcv⟩
  cases b with
  | ro cs' => cases hw
  | mp m => cases hb
  | mi I => cases hb
  | own cs' =>
    simp only [ABlk.cells, Option.some.injEq] at hb; subst hb
    obtain ⟨c, t, h1, h2, h3, h4⟩ := h
    refine ⟨c, t, h1, by omega, h2, _, t, setRow_heap _ _ _ _ _ _ h1, h2, ?_, key c (by omega) h4⟩
    simp; omega
  | row e z cs' =>
    simp only [ABlk.cells, Option.some.injEq] at hb; subst hb
    obtain ⟨c, h1, h2, h3, h4, h5, h6⟩ := h
    refine ⟨c, e, h1, by omega, h2, _, setRow_heap _ _ _ _ _ _ h1, h2, h3, ?_, ?_, key c (by omega) h6⟩
    · simp; omega
    · simp; omega

theorem grownBy_setRow (w : World) (g : Nat) (cs : Array Value) : w.grownBy (w.setRow g cs) (some g) :=
  ⟨rfl, rfl, rfl, by simp, fun k _ hk => setRow_other w g k cs (fun e => hk (by rw [e]))⟩

end Go.AH
